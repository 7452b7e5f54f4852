/- A segment begun anew in the place of all records: wal.(*Log).Turn. Conditions: sizes. -/
import Derived.Test.YtaeklleogniimaaGreatDoorWalWipe
namespace Go.Proofs.YtaeklleogniimaaGreatDoor
open Go Go.RowKit
set_option linter.unusedVariables false

theorem putAcc_B (c : UInt8) : ∀ (texts B : List ByteArray) (m : ByteArray) (acc : List UInt8), (putAcc c texts B m acc).1.length ≤ B.length + texts.length
  | [], B, m, acc => Nat.le_refl _
  | s :: r, B, m, acc => by
    by_cases h : 1048832 < s.size
    · rw [putAcc_long h]; exact Nat.le_add_right _ _
    · rw [putAcc_step h]
      have h1 := putAcc_B c r (seen B (m ++ sig c s)) (markOf (seen B (m ++ sig c s)) (m ++ sig c s)) (acc ++ recL (seen B (m ++ sig c s)) m (sig c s))
      have h2 := (seen_length B (m ++ sig c s)).2
      rw [List.length_cons]
      omega
theorem putAcc_m (c : UInt8) : ∀ (texts B : List ByteArray) (m : ByteArray) (acc : List UInt8) (B' : List ByteArray) (t : List UInt8) (m' : ByteArray), m.size ≤ 1000 → putAcc c texts B m acc = (B', some (t, m')) → m'.size ≤ 1000
  | [], B, m, acc, B', t, m', hm, e => by
    injection e with _ e
    injection e with e
    injection e with _ e
    rw [← e]; exact hm
  | s :: r, B, m, acc, B', t, m', hm, e => by
    by_cases h : 1048832 < s.size
    · rw [putAcc_long h] at e; injection e with _ e; cases e
    · rw [putAcc_step h] at e
      exact putAcc_m c r _ _ _ B' t m' (by rw [markOf_size]; omega) e
theorem wput_B (P : PS) (B : List ByteArray) (L : LG) (c : UInt8) (texts : List ByteArray) : (wput P B L c texts).B.length ≤ B.length + texts.length := by
  have h := putAcc_B c texts B L.m []
  rcases hp : putAcc c texts B L.m [] with ⟨B', _ | ⟨t, m'⟩⟩
  · rw [hp] at h; rw [wput_long hp]; exact h
  · rw [hp] at h
    by_cases hz : (P.write (wname L.n) L.e (textOf t)).1 = 0
    · rw [wput_ok hp hz]; exact h
    · rw [wput_no hp hz]; exact h
theorem wput_L {P : PS} {B : List ByteArray} {L : LG} (hL : L.Ok) (c : UInt8) (texts : List ByteArray) : (wput P B L c texts).L.Ok := by
  rcases hp : putAcc c texts B L.m [] with ⟨B', _ | ⟨t, m'⟩⟩
  · rw [wput_long hp]; exact hL
  · by_cases hz : (P.write (wname L.n) L.e (textOf t)).1 = 0
    · rw [wput_ok hp hz]
      have h := write_place hz
      rw [textOf_size] at h
      exact ⟨hL.n, by show L.e + t.length ≤ 2097152; omega, putAcc_m c texts B L.m [] B' t m' hL.m hp⟩
    · rw [wput_no hp hz]; exact hL
theorem OkP.wput {n : Nat} {P : PS} (h : OkP n P) (B : List ByteArray) (L : LG) (c : UInt8) (texts : List ByteArray) : OkP (n + 2097152) (wput P B L c texts).P := by
  rcases hp : putAcc c texts B L.m [] with ⟨B', _ | ⟨t, m'⟩⟩
  · rw [wput_long hp]; exact h.mono (by omega)
  · by_cases hz : (P.write (wname L.n) L.e (textOf t)).1 = 0
    · rw [wput_ok hp hz]; exact h.write2 _ _ _
    · rw [wput_no hp hz]; exact h.write2 _ _ _
theorem syncR_two (P : PS) : P.syncR.1 = 0 ∨ P.syncR.1 = 14 := by
  unfold PS.syncR
  split
  · exact Or.inr rfl
  · exact Or.inl rfl
def wseal (a : WR) : WR := if a.e = 0 then wput a.P a.B a.L 69 [⟨#[]⟩] else a
def wsync (r : WR) : WR := if r.e = 0 then { r with e := r.P.syncR.1, P := r.P.syncR.2 } else r
def wdrop (n : Nat) (d : WR) : WR := if d.e = 7 ∨ d.e = 4 then { d with P := (d.P.remove (wname n)).2 } else d
/-- a segment begun with a snapshot -/
def wbegin (P : PS) (B : List ByteArray) (n : Nat) (snap : List ByteArray) : WR :=
  if (P.create (wname n)).1 ≠ 0 then ⟨(P.create (wname n)).1, (P.create (wname n)).2, B, ⟨n, 0, firstM n⟩⟩
  else wdrop n (wsync (wseal (wput (P.create (wname n)).2 B ⟨n, 0, firstM n⟩ 83 snap)))
theorem firstG_ok {n : Nat} (hn : n < 100000000) : LG.Ok ⟨n, 0, firstM n⟩ := ⟨hn, Nat.zero_le _, by show (firstM n).size ≤ 1000; rw [firstM_size]; omega⟩
theorem wseal_L {a : WR} (h : a.L.Ok) : (wseal a).L.Ok := by
  unfold wseal
  split
  · exact wput_L h _ _
  · exact h
theorem wbegin_L {P : PS} {B : List ByteArray} {n : Nat} (hn : n < 100000000) (snap : List ByteArray) : (wbegin P B n snap).L.Ok := by
  unfold wbegin
  split
  · exact firstG_ok hn
  · have h := wseal_L (wput_L (P := (P.create (wname n)).2) (B := B) (firstG_ok hn) 83 snap)
    generalize wseal (wput (P.create (wname n)).2 B ⟨n, 0, firstM n⟩ 83 snap) = c at h
    unfold wdrop wsync
    split <;> split <;> exact h
theorem wbegin_B (P : PS) (B : List ByteArray) (n : Nat) (snap : List ByteArray) : (wbegin P B n snap).B.length ≤ B.length + snap.length + 1 := by
  unfold wbegin
  split
  · show B.length ≤ _; omega
  · have h1 := wput_B (P.create (wname n)).2 B ⟨n, 0, firstM n⟩ 83 snap
    generalize wput (P.create (wname n)).2 B ⟨n, 0, firstM n⟩ 83 snap = a at h1
    have h2 : (wseal a).B.length ≤ a.B.length + 1 := by
      unfold wseal
      split
      · exact wput_B _ _ _ _ _
      · omega
    generalize wseal a = c at h2
    have h3 : (wdrop n (wsync c)).B = c.B := by unfold wdrop wsync; split <;> split <;> rfl
    rw [h3]
    omega
theorem OkP.begin {n : Nat} {P : PS} (h : OkP n P) (B : List ByteArray) (m : Nat) (snap : List ByteArray) : OkP (n + 1 + 2097152 + 2097152) (wbegin P B m snap).P := by
  have h0 := h.create (wname m)
  unfold wbegin
  split
  · exact h0.mono (by omega)
  · have h1 := h0.wput B ⟨m, 0, firstM m⟩ 83 snap
    generalize Go.Proofs.YtaeklleogniimaaGreatDoor.wput (P.create (wname m)).2 B ⟨m, 0, firstM m⟩ 83 snap = a at h1
    have h2 : OkP (n + 1 + 2097152 + 2097152) (wseal a).P := by
      unfold wseal
      split
      · exact h1.wput _ _ _ _
      · exact h1.mono (by omega)
    generalize wseal a = c at h2
    have h3 : OkP (n + 1 + 2097152 + 2097152) (wsync c).P := by
      unfold wsync
      split
      · exact h2.syncR
      · exact h2
    generalize wsync c = d at h3
    unfold wdrop
    split
    · exact h3.remove _
    · exact h3
/-- what a call that makes a log leaves in memory -/
def Begun (b k mb : Nat) (S : DSt) (B : List ByteArray) (w : World) (R : WR) (e : Ending) (w' : World) : Prop :=
  ∃ S', S'.pl = R.P ∧ RStep (fun _ => False) b k mb S B w S' R.B w' ∧ ((R.e ≠ 0 ∧ e = .returned (.tuple #[.pointer none, .int .i64 R.e])) ∨ (R.e = 0 ∧ ∃ lg, w.heap.size ≤ lg ∧ e = .returned (.tuple #[.pointer (some ⟨lg, 0, none⟩), .int .i64 0]) ∧ LogAt w' lg b k R.L))
/-- a log of the call's own, and the pair -/
structure Stand (b k mb lg : Nat) (S0 : DSt) (B0 : List ByteArray) (w0 : World) (r : WR) (w : World) : Prop where
  lgb : w0.heap.size ≤ lg
  log : LogAt w lg b k r.L
  step : ∃ S', S'.pl = r.P ∧ RStep (fun j => j = lg) b k mb S0 B0 w0 S' r.B w
theorem Stand.done {b k mb lg : Nat} {S0 : DSt} {B0 : List ByteArray} {w0 w : World} {r : WR} (h : Stand b k mb lg S0 B0 w0 r w) : ∃ S', S'.pl = r.P ∧ RStep (fun _ => False) b k mb S0 B0 w0 S' r.B w := by
  obtain ⟨S', hp, hs⟩ := h.step
  refine ⟨S', hp, hs.mono (fun j hj e => ?_)⟩
  have := h.lgb
  omega
theorem Stand.below {b k mb lg : Nat} {S0 : DSt} {B0 : List ByteArray} {w0 w w' : World} {r : WR} (h : Stand b k mb lg S0 B0 w0 r w) (hb : Below w.heap.size w w') : Stand b k mb lg S0 B0 w0 r w' := by
  obtain ⟨S', hp, hs⟩ := h.step
  exact ⟨h.lgb, Blk.below h.log hb, S', hp, hs.below hb⟩
theorem Stand.dev {b k mb lg : Nat} {S0 : DSt} {B0 : List ByteArray} {w0 w w' : World} {r : WR} (h : Stand b k mb lg S0 B0 w0 r w) {P' : PS} (e : Int) (hd : ∀ S', S'.pl = r.P → RStep (fun j => j = lg) b k mb S0 B0 w0 S' r.B w → ∃ S2, Dev b S' w S2 w' ∧ S2.pl = P') : Stand b k mb lg S0 B0 w0 { r with e := e, P := P' } w' := by
  obtain ⟨S', hp, hs⟩ := h.step
  obtain ⟨S2, hd2, hp2⟩ := hd S' hp hs
  obtain ⟨n1, n2, n3⟩ := h.log.not_foot hs.at_
  exact ⟨h.lgb, Blk.touch h.log hd2.touch n1, S2, hp2, hs.trans (hs.at_.step hd2)⟩
set_option maxRecDepth 100000 in
set_option maxHeartbeats 3000000 in
theorem begin_any (b k mb m n : Nat) (S : DSt) (B : List ByteArray) (ad : Option Addr) (cap : Nat) (snap : List ByteArray) (w : World) (h : Rg w b k mb S B) (hok : OkP n S.pl) (hn : n ≤ 890000000) (hm : m < 100000000)
    (hs : StrsAt w ad snap) (hbs : snap ≠ [] → Beside b mb S (fun _ => False) ad) (htl : snap.length ≤ 100000) (hB : B.length + snap.length + 1 ≤ 1000000000) :
    Calls Tryz.prog 80 #[.pointer (some ⟨b, 0, none⟩), .pointer (some ⟨k, 0, none⟩), .int .i64 m, .slice ad snap.length cap] w (Begun b k mb S B w (wbegin S.pl B m snap)) := by
  have HN := Lib.hid (fun W => walName_any m W hm)
  have HF := Lib.hid (fun W => walFirst_any m W hm)
  have HC := Lib.hid (show ∀ W, Below w.heap.size w W → Calls Tryz.prog 142 #[.pointer (some ⟨b, 0, none⟩), .string (wname m)] W fun e W' => e = .returned (.int .i64 (S.pl.create (wname m)).1) ∧ Hid (∃ S', S'.pl = (S.pl.create (wname m)).2 ∧ RStep (fun _ => False) b k mb S B w S' B W') from fun W hb => (create_any b n S (wname m) W (h.dev.below hb) hok (by omega)).mono fun e W' he => by
    obtain ⟨he1, S', hd, hpl⟩ := he
    exact ⟨he1, Lib.hid ⟨S', hpl, h.step (Dev.after hb hd)⟩⟩)
  have HOk1 := Lib.hid (hok.create (wname m))
  have HS := Lib.hid hs
  have HBs := Lib.hid hbs
  have HR0 := Lib.hid (show wbegin S.pl B m snap = (if (S.pl.create (wname m)).1 ≠ 0 then ⟨(S.pl.create (wname m)).1, (S.pl.create (wname m)).2, B, ⟨m, 0, firstM m⟩⟩ else wdrop m (wsync (wseal (wput (S.pl.create (wname m)).2 B ⟨m, 0, firstM m⟩ 83 snap)))) from rfl)
  generalize wbegin S.pl B m snap = R at HR0
  generalize S.pl.create (wname m) = CR at HC HOk1 HR0
  have H := Lib.hid h
  clear h hok hs hbs
  go_enter Tryz.func80, Tryz.ntmps80
  go_wp2_with fail
  refine (HN.out _).mono ?_
  rintro e w1 ⟨rfl, hb1⟩
  have HB1 := Lib.hid hb1
  clear hb1
  go_wp2_with fail
  refine (HC.out _ HB1.out).mono ?_
  rintro e w2 ⟨rfl, HS2⟩
  clear HC HB1
  by_cases hc0 : CR.1 = 0
  · have HR1 : Hid (R = wdrop m (wsync (wseal (wput CR.2 B ⟨m, 0, firstM m⟩ 83 snap)))) := Lib.hid (by rw [HR0.out, if_neg (fun h => h hc0)])
    rw [hc0]
    clear HR0 hc0
    go_wp2_with fail
    refine (HF.out _).mono ?_
    rintro e w3 ⟨rfl, hb3⟩
    have HS3 : Hid (∃ S', S'.pl = CR.2 ∧ RStep (fun _ => False) b k mb S B w S' B w3) := Lib.hid (by
      obtain ⟨S', hp, hs⟩ := HS2.out
      exact ⟨S', hp, hs.below hb3⟩)
    clear hb3 HS2 HF
    go_upto_region 5 with (fail)
    have HSt : Hid (Stand b k mb w3.heap.size S B w ⟨0, CR.2, B, ⟨m, 0, firstM m⟩⟩ (w3.alloc (.cells #[.pointer (some ⟨b, 0, none⟩), .pointer (some ⟨k, 0, none⟩), .int .i64 m, .int .i64 0, .string (firstM m)] 209))) := Lib.hid (by
      obtain ⟨S', hp, hs⟩ := HS3.out
      exact ⟨hs.size, Blk.new w3 (logVals b k ⟨m, 0, firstM m⟩) _, S', hp, (hs.mono (fun j _ h => h.elim)).below ((Below.refl _ w3).alloc (Nat.le_refl _) _)⟩)
    have HLs : Hid (StrsAt (w3.alloc (.cells #[.pointer (some ⟨b, 0, none⟩), .pointer (some ⟨k, 0, none⟩), .int .i64 m, .int .i64 0, .string (firstM m)] 209)) ad snap) := Lib.hid (by
      obtain ⟨S', hp, hs⟩ := HS3.out
      exact strsAt_below (hs.strs HS.out HBs.out) ((Below.refl _ w3).alloc (Nat.le_refl _) _))
    have HBe : Hid (∀ S', RStep (fun j => j = w3.heap.size) b k mb S B w S' B (w3.alloc (.cells #[.pointer (some ⟨b, 0, none⟩), .pointer (some ⟨k, 0, none⟩), .int .i64 m, .int .i64 0, .string (firstM m)] 209)) → snap ≠ [] → Beside b mb S' (fun j => j = w3.heap.size) ad) := Lib.hid (fun S' hs he => by
      obtain ⟨S2, hp2, hs2⟩ := HS3.out
      refine hs.beside HS.out (fun he g off hg => ?_) he
      obtain ⟨q1, q2, q3⟩ := HBs.out he g off hg
      refine ⟨q1, q2, fun e => ?_⟩
      rcases HS.out with h0 | ⟨g', off', e', hl, _⟩
      · exact he h0
      · rw [hg] at e'
        injection e' with e'
        injection e' with e1 _ _
        have := hs2.size
        omega)
    generalize w3.alloc (.cells #[.pointer (some ⟨b, 0, none⟩), .pointer (some ⟨k, 0, none⟩), .int .i64 m, .int .i64 0, .string (firstM m)] 209) = w4 at HSt HLs HBe ⊢
    generalize w3.heap.size = lg at HSt HBe ⊢
    clear HS3
    have HPut := Lib.hid (show Calls Tryz.prog 144 #[.pointer (some ⟨lg, 0, none⟩), .int .u8 83, .slice ad snap.length cap] w4 fun e w' => e = .returned (.int .i64 (wput CR.2 B ⟨m, 0, firstM m⟩ 83 snap).e) ∧ Hid (Stand b k mb lg S B w (wput CR.2 B ⟨m, 0, firstM m⟩ 83 snap) w') from by
      obtain ⟨S', hp, hs⟩ := HSt.out.step
      have hp' : S'.pl = CR.2 := hp
      have hput := put_any b k mb lg (n + 1) S' B ⟨m, 0, firstM m⟩ 83 ad cap snap w4 hs.at_ HSt.out.log (firstG_ok hm) (by rw [hp']; exact HOk1.out) (by omega) HLs.out (HBe.out S' hs) htl (by omega)
      rw [hp'] at hput
      refine hput.mono ?_
      rintro e w' ⟨rfl, S2, hp2, hs2, hl2⟩
      exact ⟨rfl, Lib.hid ⟨HSt.out.lgb, hl2, S2, hp2, hs.trans hs2⟩⟩)
    have hAB := wput_B CR.2 B ⟨m, 0, firstM m⟩ 83 snap
    have HAL := Lib.hid (wput_L (P := CR.2) (B := B) (firstG_ok hm) 83 snap)
    have HOk2 := Lib.hid (HOk1.out.wput B ⟨m, 0, firstM m⟩ 83 snap)
    generalize wput CR.2 B ⟨m, 0, firstM m⟩ 83 snap = a at HPut hAB HAL HOk2 HR1
    clear HSt HLs HBe HOk1
    go_wp2_with fail
    refine HPut.out.mono ?_
    rintro e w5 ⟨rfl, HSt5⟩
    clear HPut
    by_cases ha0 : a.e = 0
    · have hsl : wseal a = wput a.P a.B a.L 69 [⟨#[]⟩] := if_pos ha0
      have HPut2 := Lib.hid (show ∀ W, Hid (Stand b k mb lg S B w a W) → Calls Tryz.prog 144 #[.pointer (some ⟨lg, 0, none⟩), .int .u8 69, .slice (some ⟨W.heap.size, 0, none⟩) 1 1] (W.alloc (.cells #[.string ⟨#[]⟩] 9)) fun e w' => e = .returned (.int .i64 (wseal a).e) ∧ Hid (Stand b k mb lg S B w (wseal a) w') from fun W hW => by
        rw [hsl]
        have hSt := hW.out.below ((Below.refl _ W).alloc (Nat.le_refl _) (.cells #[.string ⟨#[]⟩] 9))
        obtain ⟨S', hp, hs⟩ := hSt.step
        have hbk := Blk.new W [.string ⟨#[]⟩] 9
        have hst : StrsAt (W.alloc (.cells #[.string ⟨#[]⟩] 9)) (some ⟨W.heap.size, 0, none⟩) [⟨#[]⟩] := Or.inr ⟨W.heap.size, 0, rfl, hbk.lt, fun i hi => by
          have h0 : i = 0 := by simpa using hi
          subst h0
          exact hbk.cell 0⟩
        have hput := put_any b k mb lg (n + 1 + 2097152) S' a.B a.L 69 (some ⟨W.heap.size, 0, none⟩) 1 [⟨#[]⟩] _ hs.at_ hSt.log HAL.out (by rw [hp]; exact HOk2.out) (by omega) hst (fun _ g off hg => by
          injection hg with hg
          injection hg with hg _ _
          subst hg
          refine ⟨foot_not hs.at_.dev hbk (by decide), hs.at_.book.mb_ne hbk, fun e => ?_⟩
          exact (Blk.ne hbk hSt.log (by decide)) e) (by decide) (by show a.B.length + 1 ≤ _; omega)
        rw [hp] at hput
        refine hput.mono ?_
        rintro e w' ⟨rfl, S2, hp2, hs2, hl2⟩
        exact ⟨rfl, Lib.hid ⟨hSt.lgb, hl2, S2, hp2, hs.trans hs2⟩⟩)
      have HOk3 : Hid (OkP (n + 1 + 2097152 + 2097152) (wseal a).P) := Lib.hid (by rw [hsl]; exact HOk2.out.wput _ _ _ _)
      rw [ha0]
      clear hsl HOk2
      generalize wseal a = c at HPut2 HR1 HOk3
      go_wp2_with fail
      refine (HPut2.out _ HSt5).mono ?_
      rintro e w6 ⟨rfl, HSt6⟩
      clear HPut2 HSt5
      by_cases hc0 : c.e = 0
      · have HR2 : Hid (R = wdrop m { c with e := c.P.syncR.1, P := c.P.syncR.2 }) := Lib.hid (by rw [HR1.out]; unfold wsync; rw [if_pos hc0])
        have HSy := Lib.hid (show Calls Tryz.prog 145 #[.pointer (some ⟨b, 0, none⟩)] w6 fun e w' => e = .returned (.int .i64 c.P.syncR.1) ∧ Hid (Stand b k mb lg S B w { c with e := c.P.syncR.1, P := c.P.syncR.2 } w') from by
          obtain ⟨S', hp, hs⟩ := HSt6.out.step
          have hsy := sync_pl hs.at_.dev (by rw [hp]; exact HOk3.out) (by omega)
          rw [hp] at hsy
          refine hsy.mono ?_
          rintro e w' ⟨rfl, S2, hd2, hp2⟩
          obtain ⟨n1, n2, n3⟩ := HSt6.out.log.not_foot hs.at_
          exact ⟨rfl, Lib.hid ⟨HSt6.out.lgb, Blk.touch HSt6.out.log hd2.touch n1, S2, hp2, hs.trans (hs.at_.step hd2)⟩⟩)
        have hsy := syncR_two c.P
        rw [hc0]
        clear HR1 HSt6 hc0
        rcases hsy with h0 | h14
        · have HR3 : Hid (R = { c with e := 0, P := c.P.syncR.2 }) := Lib.hid (by rw [HR2.out, h0]; unfold wdrop; rw [if_neg (by show ¬ ((0 : Int) = 7 ∨ (0 : Int) = 4); omega)])
          rw [h0] at HSy
          go_wp2_with fail
          refine HSy.out.mono ?_
          rintro e w7 ⟨rfl, HSt7⟩
          go_wp2_with fail
          go_ret2
          obtain ⟨S', hp, hs⟩ := HSt7.out.done
          exact ⟨S', by rw [HR3.out]; exact hp, by rw [HR3.out]; exact hs, Or.inr ⟨by rw [HR3.out], lg, HSt7.out.lgb, rfl, by rw [HR3.out]; exact HSt7.out.log⟩⟩
        · have HR3 : Hid (R = { c with e := 14, P := c.P.syncR.2 }) := Lib.hid (by rw [HR2.out, h14]; unfold wdrop; rw [if_neg (by show ¬ ((14 : Int) = 7 ∨ (14 : Int) = 4); omega)])
          rw [h14] at HSy
          go_wp2_with fail
          refine HSy.out.mono ?_
          rintro e w7 ⟨rfl, HSt7⟩
          go_wp2_with fail
          go_ret2
          obtain ⟨S', hp, hs⟩ := HSt7.out.done
          exact ⟨S', by rw [HR3.out]; exact hp, by rw [HR3.out]; exact hs, Or.inl ⟨by rw [HR3.out]; show (14 : Int) ≠ 0; omega, by rw [HR3.out]; rfl⟩⟩
      · have HR2 : Hid (R = wdrop m c) := Lib.hid (by rw [HR1.out]; unfold wsync; rw [if_neg hc0])
        clear HR1
        have hcn0 : (c.e == 0) = false := by rw [beq_eq_false_iff_ne]; assumption
        have hcn1 : (c.e != 0) = true := by rw [bne_iff_ne]; assumption
        have Hcn0 : Hid (c.e ≠ 0) := Lib.hid (by assumption)
        by_cases h74 : c.e = 7 ∨ c.e = 4
        · have HR3 : Hid (R = { c with P := (c.P.remove (wname m)).2 }) := Lib.hid (by rw [HR2.out]; unfold wdrop; rw [if_pos h74])
          have HRm := Lib.hid (show ∀ W, Hid (Stand b k mb lg S B w c W) → Calls Tryz.prog 78 #[.pointer (some ⟨b, 0, none⟩), .string (wname m)] W fun e w' => e = .returned (.int .i64 (c.P.remove (wname m)).1) ∧ Hid (Stand b k mb lg S B w { c with P := (c.P.remove (wname m)).2 } w') from fun W hW => by
            obtain ⟨S', hp, hs⟩ := hW.out.step
            have hsy := remove_any b (n + 1 + 2097152 + 2097152) S' (wname m) W hs.at_.dev (by rw [hp]; exact HOk3.out) (by omega)
            rw [hp] at hsy
            refine hsy.mono ?_
            rintro e w' ⟨rfl, S2, hd2, hp2⟩
            obtain ⟨n1, n2, n3⟩ := hW.out.log.not_foot hs.at_
            exact ⟨rfl, Lib.hid ⟨hW.out.lgb, Blk.touch hW.out.log hd2.touch n1, S2, hp2, hs.trans (hs.at_.step hd2)⟩⟩)
          have h74b : ((c.e == 7) || (c.e == 4)) = true := by
            rw [Bool.or_eq_true, beq_iff_eq, beq_iff_eq]; exact h74
          clear HR2
          by_cases h7 : c.e = 7
          · have h7b : (c.e == 7) = true := by rw [beq_iff_eq]; exact h7
            clear h7 h74
            go_wp2_with fail
            refine (HN.out _).mono ?_
            rintro e w8 ⟨rfl, hb8⟩
            have HSt8 := Lib.hid (HSt6.out.below hb8)
            clear hb8
            go_wp2_with fail
            refine (HRm.out _ HSt8).mono ?_
            rintro e w9 ⟨rfl, HSt9⟩
            go_wp2_with fail
            go_ret2
            obtain ⟨S', hp, hs⟩ := HSt9.out.done
            exact ⟨S', by rw [HR3.out]; exact hp, by rw [HR3.out]; exact hs, Or.inl ⟨by rw [HR3.out]; exact Hcn0.out, by rw [HR3.out]; rfl⟩⟩
          · have h7b : (c.e == 7) = false := by rw [beq_eq_false_iff_ne]; exact h7
            have h4b : (c.e == 4) = true := by rw [beq_iff_eq]; exact h74.resolve_left h7
            clear h7 h74
            go_wp2_with fail
            refine (HN.out _).mono ?_
            rintro e w8 ⟨rfl, hb8⟩
            have HSt8 := Lib.hid (HSt6.out.below hb8)
            clear hb8
            go_wp2_with fail
            refine (HRm.out _ HSt8).mono ?_
            rintro e w9 ⟨rfl, HSt9⟩
            go_wp2_with fail
            go_ret2
            obtain ⟨S', hp, hs⟩ := HSt9.out.done
            exact ⟨S', by rw [HR3.out]; exact hp, by rw [HR3.out]; exact hs, Or.inl ⟨by rw [HR3.out]; exact Hcn0.out, by rw [HR3.out]; rfl⟩⟩
        · have HR3 : Hid (R = c) := Lib.hid (by rw [HR2.out]; unfold wdrop; rw [if_neg h74])
          have h7b : (c.e == 7) = false := by rw [beq_eq_false_iff_ne]; exact fun h => h74 (Or.inl h)
          have h4b : (c.e == 4) = false := by rw [beq_eq_false_iff_ne]; exact fun h => h74 (Or.inr h)
          clear HR2 h74
          go_wp2_with fail
          go_ret2
          obtain ⟨S', hp, hs⟩ := HSt6.out.done
          exact ⟨S', by rw [HR3.out]; exact hp, by rw [HR3.out]; exact hs, Or.inl ⟨by rw [HR3.out]; exact Hcn0.out, by rw [HR3.out]; rfl⟩⟩
    · have HR2 : Hid (R = wdrop m a) := Lib.hid (by rw [HR1.out]; unfold wseal; rw [if_neg ha0]; unfold wsync; rw [if_neg ha0])
      have HOk3 : Hid (OkP (n + 1 + 2097152 + 2097152) a.P) := Lib.hid (HOk2.out.mono (by omega))
      clear HR1 HOk2
      have han0 : (a.e == 0) = false := by rw [beq_eq_false_iff_ne]; assumption
      have han1 : (a.e != 0) = true := by rw [bne_iff_ne]; assumption
      have Han0 : Hid (a.e ≠ 0) := Lib.hid (by assumption)
      by_cases h74 : a.e = 7 ∨ a.e = 4
      · have HR3 : Hid (R = { a with P := (a.P.remove (wname m)).2 }) := Lib.hid (by rw [HR2.out]; unfold wdrop; rw [if_pos h74])
        have HRm := Lib.hid (show ∀ W, Hid (Stand b k mb lg S B w a W) → Calls Tryz.prog 78 #[.pointer (some ⟨b, 0, none⟩), .string (wname m)] W fun e w' => e = .returned (.int .i64 (a.P.remove (wname m)).1) ∧ Hid (Stand b k mb lg S B w { a with P := (a.P.remove (wname m)).2 } w') from fun W hW => by
          obtain ⟨S', hp, hs⟩ := hW.out.step
          have hsy := remove_any b (n + 1 + 2097152 + 2097152) S' (wname m) W hs.at_.dev (by rw [hp]; exact HOk3.out) (by omega)
          rw [hp] at hsy
          refine hsy.mono ?_
          rintro e w' ⟨rfl, S2, hd2, hp2⟩
          obtain ⟨n1, n2, n3⟩ := hW.out.log.not_foot hs.at_
          exact ⟨rfl, Lib.hid ⟨hW.out.lgb, Blk.touch hW.out.log hd2.touch n1, S2, hp2, hs.trans (hs.at_.step hd2)⟩⟩)
        have h74b : ((a.e == 7) || (a.e == 4)) = true := by
          rw [Bool.or_eq_true, beq_iff_eq, beq_iff_eq]; exact h74
        clear HR2
        by_cases h7 : a.e = 7
        · have h7b : (a.e == 7) = true := by rw [beq_iff_eq]; exact h7
          clear h7 h74
          go_wp2_with fail
          refine (HN.out _).mono ?_
          rintro e w8 ⟨rfl, hb8⟩
          have HSt8 := Lib.hid (HSt5.out.below hb8)
          clear hb8
          go_wp2_with fail
          refine (HRm.out _ HSt8).mono ?_
          rintro e w9 ⟨rfl, HSt9⟩
          go_wp2_with fail
          go_ret2
          obtain ⟨S', hp, hs⟩ := HSt9.out.done
          exact ⟨S', by rw [HR3.out]; exact hp, by rw [HR3.out]; exact hs, Or.inl ⟨by rw [HR3.out]; exact Han0.out, by rw [HR3.out]; rfl⟩⟩
        · have h7b : (a.e == 7) = false := by rw [beq_eq_false_iff_ne]; exact h7
          have h4b : (a.e == 4) = true := by rw [beq_iff_eq]; exact h74.resolve_left h7
          clear h7 h74
          go_wp2_with fail
          refine (HN.out _).mono ?_
          rintro e w8 ⟨rfl, hb8⟩
          have HSt8 := Lib.hid (HSt5.out.below hb8)
          clear hb8
          go_wp2_with fail
          refine (HRm.out _ HSt8).mono ?_
          rintro e w9 ⟨rfl, HSt9⟩
          go_wp2_with fail
          go_ret2
          obtain ⟨S', hp, hs⟩ := HSt9.out.done
          exact ⟨S', by rw [HR3.out]; exact hp, by rw [HR3.out]; exact hs, Or.inl ⟨by rw [HR3.out]; exact Han0.out, by rw [HR3.out]; rfl⟩⟩
      · have HR3 : Hid (R = a) := Lib.hid (by rw [HR2.out]; unfold wdrop; rw [if_neg h74])
        have h7b : (a.e == 7) = false := by rw [beq_eq_false_iff_ne]; exact fun h => h74 (Or.inl h)
        have h4b : (a.e == 4) = false := by rw [beq_eq_false_iff_ne]; exact fun h => h74 (Or.inr h)
        clear HR2 h74
        go_wp2_with fail
        go_ret2
        obtain ⟨S', hp, hs⟩ := HSt5.out.done
        exact ⟨S', by rw [HR3.out]; exact hp, by rw [HR3.out]; exact hs, Or.inl ⟨by rw [HR3.out]; exact Han0.out, by rw [HR3.out]; rfl⟩⟩
  · have HR1 : Hid (R = ⟨CR.1, CR.2, B, ⟨m, 0, firstM m⟩⟩) := Lib.hid (by rw [HR0.out, if_pos hc0])
    have hb : (CR.1 != 0) = true := by rw [bne_iff_ne]; exact hc0
    have Hc0 := Lib.hid hc0
    clear HR0 hc0
    go_wp2_with fail
    go_ret2
    obtain ⟨S', hp, hs⟩ := HS2.out
    exact ⟨S', by rw [HR1.out]; exact hp, by rw [HR1.out]; exact hs, Or.inl ⟨by rw [HR1.out]; exact Hc0.out, by rw [HR1.out]; rfl⟩⟩
end Go.Proofs.YtaeklleogniimaaGreatDoor
namespace Go.Proofs.YtaeklleogniimaaGreatDoor
open Go Go.RowKit
set_option linter.unusedVariables false

set_option maxRecDepth 100000 in
theorem walNone_any (b k mb : Nat) (B : List ByteArray) (w : World) (h : BookIs w k mb B) :
    Calls Tryz.prog 76 #[.pointer (some ⟨b, 0, none⟩), .pointer (some ⟨k, 0, none⟩)] w fun e w' => e = .returned (.bool false) ∧ w = w' := by
  have HB := Lib.hid (bookReady_any k mb w h.at_)
  clear h
  go_enter Tryz.func76, Tryz.ntmps76
  go_wp2_with fail
  refine HB.out.mono ?_
  rintro e w' ⟨rfl, rfl⟩
  go_wp2_with fail
  go_ret
  exact ⟨rfl, rfl⟩
/-- a row of the call's own of a type that the pair has not lies beside it -/
theorem row_beside {w : World} {b k mb : Nat} {S : DSt} {B : List ByteArray} (h : Rg w b k mb S B) {base : Nat} {T : TypeId} {sz : Nat} {v : Value} {n : Nat} {xs : List Value} (hr : w.ownsRow base T sz v n xs) (hT : T ≠ 79 ∧ T ≠ 133 ∧ T ≠ 198 ∧ T ≠ 136 ∧ T ≠ 5) :
    ∀ g, v.ownBlock = some g → ¬ foot b S g ∧ g ≠ mb := by
  intro g hg
  obtain ⟨h1, h2⟩ := hr
  rcases h2 with ⟨rfl, rfl⟩ | ⟨g', cap, cur, rfl, hb, hh, r⟩
  · cases hg
  · have : g' = g := by simpa [Value.ownBlock] using hg
    subst this
    have hbk : Blk w g' cur.toList T := by unfold Blk; rw [hh]
    exact ⟨foot_not h.dev hbk hT, h.book.mb_ne hbk⟩
def removeAll (ns : List Nat) (P : PS) : PS := ns.foldl (fun P n => (P.remove (wname n)).2) P
theorem removeAll_snoc (ns : List Nat) (n : Nat) (P : PS) : removeAll (ns ++ [n]) P = ((removeAll ns P).remove (wname n)).2 := by
  unfold removeAll
  rw [List.foldl_append]
  rfl
theorem OkP.removeAll {q : Nat} {P : PS} (ns : List Nat) : ∀ {P : PS}, OkP q P → OkP q (removeAll ns P) := by
  induction ns with
  | nil => exact fun h => h
  | cons n ns ih => exact fun h => ih (h.remove (wname n))
/-- an empty log made -/
def wformat (P : PS) (B : List ByteArray) : WR := if P.off = true then ⟨14, P, B, ⟨1, 0, firstM 1⟩⟩ else wbegin (removeAll (segsP P) P) B 1 []
theorem intVals_at {l : List Nat} {i : Nat} (h : i < l.length) : (intVals l)[i]? = some (.int .i64 (l[i] : Nat)) := by
  unfold intVals
  rw [List.getElem?_map, List.getElem?_eq_getElem h]
  rfl
set_option maxRecDepth 100000 in
set_option maxHeartbeats 2000000 in
theorem format_any (b k mb n : Nat) (S : DSt) (B : List ByteArray) (w : World) (h : Rg w b k mb S B) (hok : OkP n S.pl) (hn : n ≤ 890000000) (hB : B.length + 1 ≤ 1000000000) :
    Calls Tryz.prog 32 #[.pointer (some ⟨b, 0, none⟩), .pointer (some ⟨k, 0, none⟩)] w (Begun b k mb S B w (wformat S.pl B)) := by
  have HNo := Lib.hid (walNone_any b k mb B w h.book)
  have H := Lib.hid h
  have HOk := Lib.hid hok
  cases ho : S.off with
  | true =>
    have hR : wformat S.pl B = ⟨14, S.pl, B, ⟨1, 0, firstM 1⟩⟩ := if_pos ho
    have HSg := Lib.hid (segments_off b S w h.dev ho)
    rw [hR]
    clear h hok ho hR
    go_enter Tryz.func32, Tryz.ntmps32
    go_wp2_with fail
    refine HNo.out.mono ?_
    rintro e w1 ⟨rfl, rfl⟩
    go_wp2_with fail
    refine HSg.out.mono ?_
    rintro e w1 ⟨rfl, rfl⟩
    go_wp2_with fail
    go_ret2
    exact ⟨S, rfl, RStep.refl H.out, Or.inl ⟨by show (14 : Int) ≠ 0; omega, rfl⟩⟩
  | false =>
    have hno : ¬ (S.pl.off = true) := by show ¬ (S.off = true); rw [ho]; decide
    have HR := Lib.hid (show wformat S.pl B = wbegin (removeAll (segsP S.pl) S.pl) B 1 [] from if_neg hno)
    generalize wformat S.pl B = R at HR
    obtain ⟨_, hl, _⟩ := hok.ready (by omega)
    have HSg := Lib.hid (segments_on b S w h.dev ho hl)
    have hsl : ∀ m ∈ segsP S.pl, m < 100000000 := segsL_lt
    have hss : (segsP S.pl).length ≤ 1000000000 := by
      have h1 := segsL_len (S.pl.files.map PF.name)
      have h2 := hok.flen
      rw [List.length_map] at h1
      unfold segsP
      omega
    generalize segsP S.pl = segs at HR HSg hsl hss
    clear h hok ho hno hl
    go_enter Tryz.func32, Tryz.ntmps32
    go_wp2_with fail
    refine HNo.out.mono ?_
    rintro e w1 ⟨rfl, rfl⟩
    go_wp2_with fail
    refine HSg.out.mono ?_
    rintro e w1 ⟨v, rfl, hrow, hb1⟩
    obtain ⟨ad, cap, rfl⟩ := row_shape hrow
    have HRow := Lib.hid hrow
    have HS1 : Hid (∃ S', S'.pl = removeAll (segs.take 0) S.pl ∧ RStep (fun _ => False) b k mb S B _ S' B w1) := Lib.hid ⟨S, rfl, (RStep.refl H.out).below hb1⟩
    clear hrow hb1 HSg HNo
    go_wp2_with fail
    go_loopw [23] (fun i wr => ∃ x : Nat, x ≤ segs.length ∧ i = .int .i64 x ∧ Hid (∃ S', S'.pl = removeAll (segs.take x) S.pl ∧ RStep (fun _ => False) b k mb S B w S' B wr) ∧ Hid (wr.ownsRow w.heap.size 3 1 (.slice ad segs.length cap) segs.length (intVals segs))) (fun i _ => segs.length - (intOf i).toNat)
    case atStart => exact ⟨0, Nat.zero_le _, rfl, HS1, HRow⟩
    case round =>
      obtain ⟨x, hx, rfl, HS, HRw⟩ := hrel
      by_cases hlt : x < segs.length
      · have hxi : (x : Int) < (segs.length : Int) := by omega
        obtain ⟨ad2, cap2, hv, _, _, _, hnil, hsome⟩ := row_open HRw.out
        injection hv with hv1 _ hv2
        subst hv1; subst hv2
        cases ad with
        | none => have := hnil rfl; omega
        | some p =>
          obtain ⟨g, rfl, _, _, hc⟩ := hsome p rfl
          have cs : wr.cell? ⟨g, x, none⟩ = some (.int .i64 (segs[x] : Nat)) := (hc x hlt).trans (intVals_at hlt)
          have hm := hsl segs[x] (List.getElem_mem hlt)
          have HT : Hid (removeAll (segs.take (x + 1)) S.pl = ((removeAll (segs.take x) S.pl).remove (wname segs[x])).2) := Lib.hid (by rw [List.take_succ_eq_append_getElem hlt, removeAll_snoc])
          generalize segs[x] = m at cs hm HT
          have HN := Lib.hid (fun W => walName_any m W hm)
          clear hc hnil hsome
          go_wp2_with fail
          refine (HN.out _).mono ?_
          rintro e w2 ⟨rfl, hb2⟩
          have HS2 : Hid (∃ S', S'.pl = removeAll (segs.take x) S.pl ∧ RStep (fun _ => False) b k mb S B w S' B w2) := Lib.hid (by
            obtain ⟨S', hp, hs⟩ := HS.out
            exact ⟨S', hp, hs.below hb2⟩)
          have HRw2 := Lib.hid (ownsRow_below HRw.out hb2)
          clear hb2 HS HRw
          have HRm := Lib.hid (show Calls Tryz.prog 78 #[.pointer (some ⟨b, 0, none⟩), .string (wname m)] w2 fun e w' => (∃ r, e = .returned (.int .i64 r)) ∧ Hid (∃ S', S'.pl = removeAll (segs.take (x + 1)) S.pl ∧ RStep (fun _ => False) b k mb S B w S' B w') ∧ Hid (w'.ownsRow w.heap.size 3 1 (.slice (some ⟨g, 0, none⟩) segs.length cap) segs.length (intVals segs)) from by
            obtain ⟨S', hp, hs⟩ := HS2.out
            have hrm := remove_any b n S' (wname m) w2 hs.at_.dev (by rw [hp]; exact OkP.removeAll (P := S.pl) _ HOk.out) (by omega)
            refine hrm.mono ?_
            rintro e w' ⟨rfl, S2, hd2, hp2⟩
            have hst : RStep (fun _ => False) b k mb S' B w2 S2 B w' := hs.at_.step hd2
            refine ⟨⟨_, rfl⟩, Lib.hid ⟨S2, by rw [hp2, hp, HT.out], hs.trans hst⟩, Lib.hid (hst.row HRw2.out (fun g hg => ?_))⟩
            obtain ⟨q1, q2⟩ := row_beside hs.at_ HRw2.out (by decide) g hg
            exact ⟨q1, q2, fun h => h⟩)
          go_wp2_with fail
          refine HRm.out.mono ?_
          rintro e w3 ⟨⟨r, rfl⟩, HS3, HRw3⟩
          clear HRm HS2 HRw2 cs
          go_wp2_with fail
          go_roundw
          case rel => exact ⟨x + 1, by omega, by go_num, HS3, HRw3⟩
          case measure => simp [intOf]; omega
      · have hxe : x = segs.length := by omega
        have hxi : ¬ ((x : Int) < (segs.length : Int)) := by omega
        have HBe := Lib.hid (show Calls Tryz.prog 80 #[.pointer (some ⟨b, 0, none⟩), .pointer (some ⟨k, 0, none⟩), .int .i64 1, .slice none 0 0] wr (Begun b k mb S B w R) from by
          obtain ⟨S', hp, hs⟩ := HS.out
          rw [hxe, List.take_length] at hp
          have hbg := begin_any b k mb 1 n S' B none 0 [] wr hs.at_ (by rw [hp]; exact OkP.removeAll (P := S.pl) _ HOk.out) hn (by decide) (Or.inl rfl) (fun h => absurd rfl h) (by decide) (by show B.length + 0 + 1 ≤ _; omega)
          rw [hp, ← HR.out] at hbg
          refine hbg.mono ?_
          rintro e w' ⟨S2, hp2, hs2, hq⟩
          refine ⟨S2, hp2, hs.trans hs2, hq.imp id ?_⟩
          rintro ⟨h0, lg, hlg, he, hl⟩
          exact ⟨h0, lg, Nat.le_trans hs.size hlg, he, hl⟩)
        clear HS HRw HR
        go_wp2_with fail
        refine HBe.out.mono ?_
        rintro e w2 ⟨S2, hp2, hs2, ⟨h0, rfl⟩ | ⟨h0, lg, hlg, rfl, hl⟩⟩
        · have HF := Lib.hid (show ∃ S', S'.pl = R.P ∧ RStep (fun _ => False) b k mb S B w S' R.B w2 from ⟨S2, hp2, hs2⟩)
          have H0 := Lib.hid h0
          clear hp2 hs2 h0
          go_wp2_with fail
          go_ret2
          obtain ⟨S3, hp3, hs3⟩ := HF.out
          exact ⟨S3, hp3, hs3, Or.inl ⟨H0.out, rfl⟩⟩
        · have HF := Lib.hid (show ∃ S', S'.pl = R.P ∧ RStep (fun _ => False) b k mb S B w S' R.B w2 from ⟨S2, hp2, hs2⟩)
          have H0 := Lib.hid (And.intro h0 (And.intro hlg hl))
          clear hp2 hs2 h0 hlg hl
          go_wp2_with fail
          go_ret2
          obtain ⟨S3, hp3, hs3⟩ := HF.out
          exact ⟨S3, hp3, hs3, Or.inr ⟨H0.out.1, lg, H0.out.2.1, rfl, H0.out.2.2⟩⟩
end Go.Proofs.YtaeklleogniimaaGreatDoor
namespace Go.Proofs.YtaeklleogniimaaGreatDoor
open Go Go.RowKit
set_option linter.unusedVariables false

theorem closed_any (lg b k : Nat) (L : LG) (w : World) (h : LogAt w lg b k L) :
    Calls Tryz.prog 240 #[.pointer (some ⟨lg, 0, none⟩)] w fun e w' => e = .returned (.bool false) ∧ w = w' := by
  have c0 : w.cell? ⟨lg, 0, none⟩ = some (.pointer (some ⟨b, 0, none⟩)) := h.cell 0
  clear h
  go_enter Tryz.func240, Tryz.ntmps240
  go_wp2_with fail
  go_ret
  exact ⟨rfl, rfl⟩
theorem logSize_any (lg b k : Nat) (L : LG) (w : World) (h : LogAt w lg b k L) :
    Calls Tryz.prog 175 #[.pointer (some ⟨lg, 0, none⟩)] w fun e w' => e = .returned (.int .i64 L.e) ∧ w = w' := by
  have c3 : w.cell? ⟨lg, 3, none⟩ = some (.int .i64 L.e) := h.cell 3
  have HC := Lib.hid (closed_any lg b k L w h)
  clear h
  go_enter Tryz.func175, Tryz.ntmps175
  go_wp2_with fail
  refine HC.out.mono ?_
  rintro e w' ⟨rfl, rfl⟩
  go_wp2_with fail
  go_ret
  exact ⟨rfl, rfl⟩
def wappend (P : PS) (B : List ByteArray) (L : LG) (s : ByteArray) : WR := wput P B L 82 [s]
theorem append_log (b k mb lg n : Nat) (S : DSt) (B : List ByteArray) (L : LG) (s : ByteArray) (w : World) (h : Rg w b k mb S B) (hlg : LogAt w lg b k L) (hL : L.Ok) (hok : OkP n S.pl) (hn : n ≤ 900000000) (hB : B.length + 1 ≤ 1000000000) :
    Calls Tryz.prog 170 #[.pointer (some ⟨lg, 0, none⟩), .string s] w fun e w' => e = .returned (.int .i64 (wappend S.pl B L s).e) ∧ ∃ S', S'.pl = (wappend S.pl B L s).P ∧ RStep (fun j => j = lg) b k mb S B w S' (wappend S.pl B L s).B w' ∧ LogAt w' lg b k (wappend S.pl B L s).L := by
  have HC := Lib.hid (closed_any lg b k L w hlg)
  have HP := Lib.hid (show Calls Tryz.prog 144 #[.pointer (some ⟨lg, 0, none⟩), .int .u8 82, .slice (some ⟨w.heap.size, 0, none⟩) 1 1] (w.alloc (.cells #[.string s] 9)) fun e w' => e = .returned (.int .i64 (wappend S.pl B L s).e) ∧ Hid (∃ S', S'.pl = (wappend S.pl B L s).P ∧ RStep (fun j => j = lg) b k mb S B w S' (wappend S.pl B L s).B w' ∧ LogAt w' lg b k (wappend S.pl B L s).L) from by
    have hb := (Below.refl _ w).alloc (Nat.le_refl _) (.cells #[.string s] 9)
    have hbk := Blk.new w [.string s] 9
    have hR := h.below hb
    have hst : StrsAt (w.alloc (.cells #[.string s] 9)) (some ⟨w.heap.size, 0, none⟩) [s] := Or.inr ⟨w.heap.size, 0, rfl, hbk.lt, fun i hi => by
      have h0 : i = 0 := by simpa using hi
      subst h0
      exact hbk.cell 0⟩
    refine (put_any b k mb lg n S B L 82 (some ⟨w.heap.size, 0, none⟩) 1 [s] _ hR (Blk.below hlg hb) hL hok hn hst (fun _ g off hg => ?_) (by show 1 ≤ 100000; decide) hB).mono ?_
    · injection hg with hg
      injection hg with hg _ _
      subst hg
      have hlt := hlg.lt
      exact ⟨foot_not hR.dev hbk (by decide), hR.book.mb_ne hbk, by omega⟩
    · rintro e w' ⟨rfl, S', hp, hs, hl⟩
      exact ⟨rfl, Lib.hid ⟨S', hp, hs.after hb, hl⟩⟩)
  generalize wappend S.pl B L s = R at HP ⊢
  clear h hlg hok
  go_enter Tryz.func170, Tryz.ntmps170
  go_wp2_with fail
  refine HC.out.mono ?_
  rintro e w1 ⟨rfl, rfl⟩
  go_wp2_with fail
  refine HP.out.mono ?_
  rintro e w2 ⟨rfl, h2⟩
  go_wp2_with fail
  go_ret
  exact ⟨rfl, h2.out⟩
theorem sync_log (b k mb lg n : Nat) (S : DSt) (B : List ByteArray) (L : LG) (w : World) (h : Rg w b k mb S B) (hlg : LogAt w lg b k L) (hok : OkP n S.pl) (hn : n ≤ 1000000000) :
    Calls Tryz.prog 174 #[.pointer (some ⟨lg, 0, none⟩)] w fun e w' => e = .returned (.int .i64 S.pl.syncR.1) ∧ ∃ S', Dev b S w S' w' ∧ S'.pl = S.pl.syncR.2 := by
  have HC := Lib.hid (closed_any lg b k L w hlg)
  have HS := Lib.hid (sync_pl h.dev hok hn)
  have c0 : w.cell? ⟨lg, 0, none⟩ = some (.pointer (some ⟨b, 0, none⟩)) := hlg.cell 0
  clear h hlg hok
  go_enter Tryz.func174, Tryz.ntmps174
  go_wp2_with fail
  refine HC.out.mono ?_
  rintro e w1 ⟨rfl, rfl⟩
  go_wp2_with fail
  refine HS.out.mono ?_
  rintro e w2 ⟨rfl, h2⟩
  have H2 := Lib.hid h2
  clear h2
  go_wp2_with fail
  go_ret
  exact ⟨rfl, H2.out⟩
end Go.Proofs.YtaeklleogniimaaGreatDoor
namespace Go.Proofs.YtaeklleogniimaaGreatDoor
open Go Go.RowKit
set_option linter.unusedVariables false

def wturn (P : PS) (B : List ByteArray) (L : LG) (snap : List ByteArray) : WR :=
  if L.n = 99999999 then ⟨2, P, B, L⟩
  else if (wbegin P B (L.n + 1) snap).e ≠ 0 then ⟨(wbegin P B (L.n + 1) snap).e, (wbegin P B (L.n + 1) snap).P, (wbegin P B (L.n + 1) snap).B, L⟩
  else ⟨0, ((wbegin P B (L.n + 1) snap).P.remove (wname L.n)).2, (wbegin P B (L.n + 1) snap).B, (wbegin P B (L.n + 1) snap).L⟩
set_option maxRecDepth 100000 in
set_option maxHeartbeats 2000000 in
theorem turn_any (b k mb lg n : Nat) (S : DSt) (B : List ByteArray) (L : LG) (ad : Option Addr) (cap : Nat) (snap : List ByteArray) (w : World) (h : Rg w b k mb S B) (hlg : LogAt w lg b k L) (hL : L.Ok) (hok : OkP n S.pl) (hn : n ≤ 890000000)
    (hs : StrsAt w ad snap) (hbs : snap ≠ [] → Beside b mb S (fun _ => False) ad) (htl : snap.length ≤ 100000) (hB : B.length + snap.length + 1 ≤ 1000000000) :
    Calls Tryz.prog 172 #[.pointer (some ⟨lg, 0, none⟩), .slice ad snap.length cap] w fun e w' => e = .returned (.int .i64 (wturn S.pl B L snap).e) ∧ ∃ S', S'.pl = (wturn S.pl B L snap).P ∧ RStep (fun j => j = lg) b k mb S B w S' (wturn S.pl B L snap).B w' ∧ LogAt w' lg b k (wturn S.pl B L snap).L := by
  have HC := Lib.hid (closed_any lg b k L w hlg)
  have c0 : w.cell? ⟨lg, 0, none⟩ = some (.pointer (some ⟨b, 0, none⟩)) := hlg.cell 0
  have c1 : w.cell? ⟨lg, 1, none⟩ = some (.pointer (some ⟨k, 0, none⟩)) := hlg.cell 1
  have c2 : w.cell? ⟨lg, 2, none⟩ = some (.int .i64 L.n) := hlg.cell 2
  have H := Lib.hid h
  have HLg := Lib.hid hlg
  have hLn := hL.n
  generalize hR : wturn S.pl B L snap = R
  by_cases hmax : L.n = 99999999
  · have HE : Hid (R = ⟨2, S.pl, B, L⟩) := Lib.hid (by rw [← hR]; exact if_pos hmax)
    have hb : ((L.n : Int) == 99999999) = true := by rw [beq_iff_eq]; omega
    clear h hlg hL hok hs hbs hR hmax
    go_enter Tryz.func172, Tryz.ntmps172
    go_wp2_with fail
    refine HC.out.mono ?_
    rintro e w1 ⟨rfl, rfl⟩
    go_wp2_with fail
    go_ret
    exact ⟨by rw [HE.out]; rfl, S, by rw [HE.out], by rw [HE.out]; exact RStep.refl H.out, by rw [HE.out]; exact HLg.out⟩
  · have HR : Hid (R = (if (wbegin S.pl B (L.n + 1) snap).e ≠ 0 then ⟨(wbegin S.pl B (L.n + 1) snap).e, (wbegin S.pl B (L.n + 1) snap).P, (wbegin S.pl B (L.n + 1) snap).B, L⟩ else ⟨0, ((wbegin S.pl B (L.n + 1) snap).P.remove (wname L.n)).2, (wbegin S.pl B (L.n + 1) snap).B, (wbegin S.pl B (L.n + 1) snap).L⟩)) := Lib.hid (by rw [← hR]; exact if_neg hmax)
    have hb : ((L.n : Int) == 99999999) = false := by rw [beq_eq_false_iff_ne]; omega
    have hn1 : L.n + 1 < 100000000 := by omega
    have HBg := Lib.hid (show ∀ q, Calls Tryz.prog 80 #[.pointer (some ⟨b, 0, none⟩), .pointer (some ⟨k, 0, none⟩), .int .i64 ((L.n : Int) + 1), .slice ad snap.length cap] (w.drewN q) (Begun b k mb S B (w.drewN q) (wbegin S.pl B (L.n + 1) snap)) from fun q => by
      have hd := below_drewN (Below.refl w.heap.size w) q
      have hbg := begin_any b k mb (L.n + 1) n S B ad cap snap (w.drewN q) (h.below hd) hok hn hn1 (strsAt_below hs hd) hbs htl hB
      rwa [show ((L.n + 1 : Nat) : Int) = (L.n : Int) + 1 by omega] at hbg)
    have HOk := Lib.hid (hok.begin B (L.n + 1) snap)
    have hww : IntKind.i64.wrap ((L.n : Int) + 1) = (L.n : Int) + 1 := by rw [IntKind.wrap_i64]; omega
    generalize wbegin S.pl B (L.n + 1) snap = Q at HR HBg HOk
    have HK0 := Lib.hid (fun w2 (hs2 : ∃ S', RStep (fun _ => False) b k mb S B w S' Q.B w2) => (show LogAt w2 lg b k L from by
      obtain ⟨S', hs⟩ := hs2
      obtain ⟨n1, n2, n3⟩ := HLg.out.not_foot H.out
      exact hs.blk HLg.out n1 n2 (fun h => h)))
    clear h hlg hL hok hs hbs hR hmax
    by_cases h0 : Q.e = 0
    case neg =>
      have HBg2 := Lib.hid (show Calls Tryz.prog 80 #[.pointer (some ⟨b, 0, none⟩), .pointer (some ⟨k, 0, none⟩), .int .i64 ((L.n : Int) + 1), .slice ad snap.length cap] w.drew fun e w' => e = .returned (.tuple #[.pointer none, .int .i64 Q.e]) ∧ Hid (LogAt w' lg b k L ∧ ∃ S', S'.pl = Q.P ∧ RStep (fun _ => False) b k mb S B w S' Q.B w') from (HBg.out 1).mono fun e w' he => by
        obtain ⟨S2, hp2, hs2, hc⟩ := he
        have hs3 := RStep.after (below_drewN (Below.refl _ w) 1) hs2
        exact ⟨hc.elim (fun h => h.2) (fun h => absurd h.1 h0), Lib.hid ⟨HK0.out w' ⟨S2, hs3⟩, S2, hp2, hs3⟩⟩)
      have HE : Hid (R = { e := Q.e, P := Q.P, B := Q.B, L := L }) := Lib.hid (by rw [HR.out, if_pos h0])
      have hqb : (Q.e != 0) = true := by rw [bne_iff_ne]; exact h0
      clear HR h0 HBg
      go_enter Tryz.func172, Tryz.ntmps172
      go_wp2_with fail
      refine HC.out.mono ?_
      rintro e w1 ⟨rfl, rfl⟩
      go_upto_region 5 with (fail)
      go_region_held3 (fun w' => w'.cell? ⟨lg, 0, none⟩ = some (.pointer (some ⟨b, 0, none⟩)) ∧ w'.cell? ⟨lg, 1, none⟩ = some (.pointer (some ⟨k, 0, none⟩)) ∧ w'.cell? ⟨lg, 2, none⟩ = some (.int .i64 L.n))
        (first | exact hc2 | go_keep)
        ((go_at_call 80; refine HBg2.out.mono ?_; rintro e w2 ⟨rfl, h2⟩; have hc2 : w2.cell? ⟨lg, 0, none⟩ = some (.pointer (some ⟨b, 0, none⟩)) ∧ w2.cell? ⟨lg, 1, none⟩ = some (.pointer (some ⟨k, 0, none⟩)) ∧ w2.cell? ⟨lg, 2, none⟩ = some (.int .i64 L.n) := ⟨h2.out.1.cell 0, h2.out.1.cell 1, h2.out.1.cell 2⟩))
      clear hc2
      go_wp2_with fail
      go_ret
      obtain ⟨hl3, S3, hp3, hs3⟩ := h2.out
      exact ⟨by rw [HE.out]; rfl, S3, by rw [HE.out]; exact hp3, by rw [HE.out]; exact hs3.mono (fun j _ h => h.elim), by rw [HE.out]; exact hl3⟩
    case pos =>
      have HBg2 := Lib.hid (show Calls Tryz.prog 80 #[.pointer (some ⟨b, 0, none⟩), .pointer (some ⟨k, 0, none⟩), .int .i64 ((L.n : Int) + 1), .slice ad snap.length cap] w.drew fun e w' => ∃ lgn, e = .returned (.tuple #[.pointer (some ⟨lgn, 0, none⟩), .int .i64 0]) ∧ w.heap.size ≤ lgn ∧ Hid (LogAt w' lg b k L ∧ LogAt w' lgn b k Q.L ∧ ∃ S', S'.pl = Q.P ∧ RStep (fun _ => False) b k mb S B w S' Q.B w') from (HBg.out 1).mono fun e w' he => by
        obtain ⟨S2, hp2, hs2, hc⟩ := he
        have hs3 := RStep.after (below_drewN (Below.refl _ w) 1) hs2
        rcases hc with h | ⟨_, lgn, hlgn, he, hl⟩
        · exact absurd h0 h.1
        · exact ⟨lgn, he, hlgn, Lib.hid ⟨HK0.out w' ⟨S2, hs3⟩, hl, S2, hp2, hs3⟩⟩)
      have HE : Hid (R = ⟨0, (Q.P.remove (wname L.n)).2, Q.B, Q.L⟩) := Lib.hid (by rw [HR.out, if_neg (fun h => h h0)])
      clear HR h0 HBg
      go_enter Tryz.func172, Tryz.ntmps172
      go_wp2_with fail
      refine HC.out.mono ?_
      rintro e w1 ⟨rfl, rfl⟩
      go_upto_region 5 with (fail)
      go_region_held3 (fun w' => w'.cell? ⟨lg, 0, none⟩ = some (.pointer (some ⟨b, 0, none⟩)) ∧ w'.cell? ⟨lg, 1, none⟩ = some (.pointer (some ⟨k, 0, none⟩)) ∧ w'.cell? ⟨lg, 2, none⟩ = some (.int .i64 L.n))
        (first | exact hc2 | go_keep)
        ((go_at_call 80; refine HBg2.out.mono ?_; rintro e w2 ⟨lgn, rfl, hlgn, h2⟩; have hc2 : w2.cell? ⟨lg, 0, none⟩ = some (.pointer (some ⟨b, 0, none⟩)) ∧ w2.cell? ⟨lg, 1, none⟩ = some (.pointer (some ⟨k, 0, none⟩)) ∧ w2.cell? ⟨lg, 2, none⟩ = some (.int .i64 L.n) := ⟨h2.out.1.cell 0, h2.out.1.cell 1, h2.out.1.cell 2⟩))
      have HF := Lib.hid h2.out.2.2
      have HL2 := Lib.hid h2.out.1
      have HLn2 := Lib.hid h2.out.2.1
      clear hc2 h2 c0 c1 c2 HC HBg2
      have hne : lgn ≠ lg := by
        have h1 := HLg.out.lt
        have h2 : w.heap.size ≤ lgn := hlgn
        omega
      have HN := Lib.hid (show ∀ W, Hid (Below w2.heap.size w2 W) → Calls Tryz.prog 79 #[.int .i64 L.n] W fun e W' => e = .returned (.string (wname L.n)) ∧ Hid (Below w2.heap.size w2 W') from fun W hb => (walName_any L.n W (by omega)).mono fun e W' he => ⟨he.1, Lib.hid (below_step hb.out he.2)⟩)
      have HRm := Lib.hid (show ∀ W, Hid (Below w2.heap.size w2 W) → Calls Tryz.prog 78 #[.pointer (some ⟨b, 0, none⟩), .string (wname L.n)] W fun e W' => (∃ r, e = .returned (.int .i64 r)) ∧ Hid (LogAt W' lg b k L ∧ LogAt W' lgn b k Q.L ∧ ∃ S', S'.pl = (Q.P.remove (wname L.n)).2 ∧ RStep (fun _ => False) b k mb S B w S' Q.B W') from fun W hb => by
        obtain ⟨S3, hp3, hs3⟩ := HF.out
        have hs4 := hs3.below hb.out
        have hla := Blk.below HL2.out hb.out
        have hlb := Blk.below HLn2.out hb.out
        have hrm := remove_any b (n + 1 + 2097152 + 2097152) S3 (wname L.n) W hs4.at_.dev (by rw [hp3]; exact HOk.out) (by omega)
        rw [hp3] at hrm
        refine hrm.mono ?_
        rintro e W' ⟨rfl, S4, hd4, hp4⟩
        obtain ⟨q1, q2, q3⟩ := LogAt.not_foot hla hs4.at_
        obtain ⟨r1, r2, r3⟩ := LogAt.not_foot hlb hs4.at_
        exact ⟨⟨_, rfl⟩, Lib.hid ⟨Blk.touch hla hd4.touch q1, Blk.touch hlb hd4.touch r1, S4, hp4, hs4.trans (hs4.at_.step hd4)⟩⟩)
      have HK := Lib.hid (show ∀ W, Hid (Below w2.heap.size w2 W) → W.cell? ⟨lg, 0, none⟩ = some (.pointer (some ⟨b, 0, none⟩)) ∧ W.cell? ⟨lg, 2, none⟩ = some (.int .i64 L.n) from fun W hb => ⟨(Blk.below HL2.out hb.out).cell 0, (Blk.below HL2.out hb.out).cell 2⟩)
      have hA2d : Hid (Below w2.heap.size w2 w2.drew) := Lib.hid (Below.refl _ w2).drew
      have c0 : w2.cell? ⟨lg, 0, none⟩ = some (.pointer (some ⟨b, 0, none⟩)) := HL2.out.cell 0
      have c2 : w2.cell? ⟨lg, 2, none⟩ = some (.int .i64 L.n) := HL2.out.cell 2
      go_upto_region 8 with (fail)
      go_region_held3 (fun w' => w'.cell? ⟨lg, 0, none⟩ = some (.pointer (some ⟨b, 0, none⟩)) ∧ w'.cell? ⟨lg, 2, none⟩ = some (.int .i64 L.n))
        (first | exact hc4 | exact HK.out _ (by assumption) | go_keep)
        (first
          | (go_at_call 79; refine (HN.out _ (by assumption)).mono ?_; rintro e w3 ⟨rfl, hA3⟩)
          | (go_at_call 78; refine (HRm.out _ (by assumption)).mono ?_; rintro e w4 ⟨⟨r, rfl⟩, hA4⟩; have hc4 : w4.cell? ⟨lg, 0, none⟩ = some (.pointer (some ⟨b, 0, none⟩)) ∧ w4.cell? ⟨lg, 2, none⟩ = some (.int .i64 L.n) := ⟨hA4.out.1.cell 0, hA4.out.1.cell 2⟩))
      clear c0 c2 hc4 hA2d hA3 HRm HN HK HL2 HLn2 HF
      have d0 : w4.cell? ⟨lgn, 0, none⟩ = some (.pointer (some ⟨b, 0, none⟩)) := hA4.out.2.1.cell 0
      have d1 : w4.cell? ⟨lgn, 1, none⟩ = some (.pointer (some ⟨k, 0, none⟩)) := hA4.out.2.1.cell 1
      have d2 : w4.cell? ⟨lgn, 2, none⟩ = some (.int .i64 Q.L.n) := hA4.out.2.1.cell 2
      have d3 : w4.cell? ⟨lgn, 3, none⟩ = some (.int .i64 Q.L.e) := hA4.out.2.1.cell 3
      have d4 : w4.cell? ⟨lgn, 4, none⟩ = some (.string Q.L.m) := hA4.out.2.1.cell 4
      have e0 : w4.cell? ⟨lg, 0, none⟩ = some (.pointer (some ⟨b, 0, none⟩)) := hA4.out.1.cell 0
      have e1 : w4.cell? ⟨lg, 1, none⟩ = some (.pointer (some ⟨k, 0, none⟩)) := hA4.out.1.cell 1
      have e2 : w4.cell? ⟨lg, 2, none⟩ = some (.int .i64 L.n) := hA4.out.1.cell 2
      have e3 : w4.cell? ⟨lg, 3, none⟩ = some (.int .i64 L.e) := hA4.out.1.cell 3
      have e4 : w4.cell? ⟨lg, 4, none⟩ = some (.string L.m) := hA4.out.1.cell 4
      have f0 : w4.frozen? ⟨lg, 0, none⟩ = false := hA4.out.1.free 0
      have f1 : w4.frozen? ⟨lg, 1, none⟩ = false := hA4.out.1.free 1
      have f2 : w4.frozen? ⟨lg, 2, none⟩ = false := hA4.out.1.free 2
      have f3 : w4.frozen? ⟨lg, 3, none⟩ = false := hA4.out.1.free 3
      have f4 : w4.frozen? ⟨lg, 4, none⟩ = false := hA4.out.1.free 4
      go_wp2_with fail
      go_ret
      obtain ⟨hl4, _, S4, hp4, hs4⟩ := hA4.out
      obtain ⟨q1, q2, q3⟩ := hl4.not_foot hs4.at_
      refine ⟨by rw [HE.out]; rfl, S4, by rw [HE.out]; exact hp4, ?_, ?_⟩
      · rw [HE.out]
        refine (hs4.mono (Y := fun j => j = lg) (fun j _ h => h.elim)).also (T := fun j => j = lg) ?_ (fun j hj => Or.inl hj) (fun j hj e => q1 (e ▸ hj)) (fun e => q3 e.symm) (fun e => q2 e.symm)
        exact touch1_set (touch1_set (touch1_set (touch1_set (touch1_set (Touch.refl _ w4) _) _) _) _) _
      · rw [HE.out]
        exact Blk.set (Blk.set (Blk.set (Blk.set (Blk.set hl4 0 _) 1 _) 2 _) 3 _) 4 _
end Go.Proofs.YtaeklleogniimaaGreatDoor
