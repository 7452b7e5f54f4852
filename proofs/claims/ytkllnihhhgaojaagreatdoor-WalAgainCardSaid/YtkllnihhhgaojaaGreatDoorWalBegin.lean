/- A segment begun with a snapshot: wal.begin. Conditions: sizes. -/
import Derived.Test.YtkllnihhhgaojaaGreatDoorWalWipe
namespace Go.Proofs.YtkllnihhhgaojaaGreatDoor
open Go Go.RowKit
set_option linter.unusedVariables false

theorem putAcc_B (c : UInt8) : ∀ (texts B : List ByteArray) (m : ByteArray) (acc : List UInt8), (putAcc c texts B m acc).1.length ≤ B.length + texts.length
  | [], B, m, acc => Nat.le_refl _
  | s :: r, B, m, acc => by
    by_cases h : 1048832 < s.size
    · rw [putAcc_long h]; exact Nat.le_add_right _ _
    · rw [putAcc_step h]
      have h1 := putAcc_B c r (seen B (m ++ sig c s)) (markOf (seen B (m ++ sig c s)) (m ++ sig c s)) (acc ++ recL (seen B (m ++ sig c s)) m (sig c s))
      have h2 := (seen_length B (m ++ sig c s)).2
      rw [List.length_cons]
      omega
theorem putAcc_m (c : UInt8) : ∀ (texts B : List ByteArray) (m : ByteArray) (acc : List UInt8) (B' : List ByteArray) (t : List UInt8) (m' : ByteArray), m.size ≤ 1000 → putAcc c texts B m acc = (B', some (t, m')) → m'.size ≤ 1000
  | [], B, m, acc, B', t, m', hm, e => by
    injection e with _ e
    injection e with e
    injection e with _ e
    rw [← e]; exact hm
  | s :: r, B, m, acc, B', t, m', hm, e => by
    by_cases h : 1048832 < s.size
    · rw [putAcc_long h] at e; injection e with _ e; cases e
    · rw [putAcc_step h] at e
      exact putAcc_m c r _ _ _ B' t m' (by rw [markOf_size]; omega) e
theorem wput_B (P : PS) (B : List ByteArray) (L : LG) (c : UInt8) (texts : List ByteArray) : (wput P B L c texts).B.length ≤ B.length + texts.length := by
  have h := putAcc_B c texts B L.m []
  rcases hp : putAcc c texts B L.m [] with ⟨B', _ | ⟨t, m'⟩⟩
  · rw [hp] at h; rw [wput_long hp]; exact h
  · rw [hp] at h
    by_cases hz : (P.write (wname L.n) L.e (textOf t)).1 = 0
    · rw [wput_ok hp hz]; exact h
    · rw [wput_no hp hz]; exact h
theorem wput_L {P : PS} {B : List ByteArray} {L : LG} (hL : L.Ok) (c : UInt8) (texts : List ByteArray) : (wput P B L c texts).L.Ok := by
  rcases hp : putAcc c texts B L.m [] with ⟨B', _ | ⟨t, m'⟩⟩
  · rw [wput_long hp]; exact hL
  · by_cases hz : (P.write (wname L.n) L.e (textOf t)).1 = 0
    · rw [wput_ok hp hz]
      have h := write_place hz
      rw [textOf_size] at h
      exact ⟨hL.n, by show L.e + t.length ≤ 2097152; omega, putAcc_m c texts B L.m [] B' t m' hL.m hp⟩
    · rw [wput_no hp hz]; exact hL
theorem OkP.wput {n : Nat} {P : PS} (h : OkP n P) (B : List ByteArray) (L : LG) (c : UInt8) (texts : List ByteArray) : OkP (n + 2097152) (wput P B L c texts).P := by
  rcases hp : putAcc c texts B L.m [] with ⟨B', _ | ⟨t, m'⟩⟩
  · rw [wput_long hp]; exact h.mono (by omega)
  · by_cases hz : (P.write (wname L.n) L.e (textOf t)).1 = 0
    · rw [wput_ok hp hz]; exact h.write2 _ _ _
    · rw [wput_no hp hz]; exact h.write2 _ _ _
theorem syncR_two (P : PS) : P.syncR.1 = 0 ∨ P.syncR.1 = 14 := by
  unfold PS.syncR
  split
  · exact Or.inr rfl
  · exact Or.inl rfl
def wseal (a : WR) : WR := if a.e = 0 then wput a.P a.B a.L 69 [⟨#[]⟩] else a
def wsync (r : WR) : WR := if r.e = 0 then { r with e := r.P.syncR.1, P := r.P.syncR.2 } else r
def wdrop (n : Nat) (d : WR) : WR := if d.e = 7 ∨ d.e = 4 then { d with P := (d.P.remove (wname n)).2 } else d
/-- a segment begun with a snapshot -/
def wbegin (P : PS) (B : List ByteArray) (n : Nat) (snap : List ByteArray) : WR :=
  if (P.create (wname n)).1 ≠ 0 then ⟨(P.create (wname n)).1, (P.create (wname n)).2, B, ⟨n, 0, firstM n⟩⟩
  else wdrop n (wsync (wseal (wput (P.create (wname n)).2 B ⟨n, 0, firstM n⟩ 83 snap)))
theorem firstG_ok {n : Nat} (hn : n < 100000000) : LG.Ok ⟨n, 0, firstM n⟩ := ⟨hn, Nat.zero_le _, by show (firstM n).size ≤ 1000; rw [firstM_size]; omega⟩
theorem wseal_L {a : WR} (h : a.L.Ok) : (wseal a).L.Ok := by
  unfold wseal
  split
  · exact wput_L h _ _
  · exact h
theorem wbegin_L {P : PS} {B : List ByteArray} {n : Nat} (hn : n < 100000000) (snap : List ByteArray) : (wbegin P B n snap).L.Ok := by
  unfold wbegin
  split
  · exact firstG_ok hn
  · have h := wseal_L (wput_L (P := (P.create (wname n)).2) (B := B) (firstG_ok hn) 83 snap)
    generalize wseal (wput (P.create (wname n)).2 B ⟨n, 0, firstM n⟩ 83 snap) = c at h
    unfold wdrop wsync
    split <;> split <;> exact h
theorem wbegin_B (P : PS) (B : List ByteArray) (n : Nat) (snap : List ByteArray) : (wbegin P B n snap).B.length ≤ B.length + snap.length + 1 := by
  unfold wbegin
  split
  · show B.length ≤ _; omega
  · have h1 := wput_B (P.create (wname n)).2 B ⟨n, 0, firstM n⟩ 83 snap
    generalize wput (P.create (wname n)).2 B ⟨n, 0, firstM n⟩ 83 snap = a at h1
    have h2 : (wseal a).B.length ≤ a.B.length + 1 := by
      unfold wseal
      split
      · exact wput_B _ _ _ _ _
      · omega
    generalize wseal a = c at h2
    have h3 : (wdrop n (wsync c)).B = c.B := by unfold wdrop wsync; split <;> split <;> rfl
    rw [h3]
    omega
theorem OkP.begin {n : Nat} {P : PS} (h : OkP n P) (B : List ByteArray) (m : Nat) (snap : List ByteArray) : OkP (n + 1 + 2097152 + 2097152) (wbegin P B m snap).P := by
  have h0 := h.create (wname m)
  unfold wbegin
  split
  · exact h0.mono (by omega)
  · have h1 := h0.wput B ⟨m, 0, firstM m⟩ 83 snap
    generalize Go.Proofs.YtkllnihhhgaojaaGreatDoor.wput (P.create (wname m)).2 B ⟨m, 0, firstM m⟩ 83 snap = a at h1
    have h2 : OkP (n + 1 + 2097152 + 2097152) (wseal a).P := by
      unfold wseal
      split
      · exact h1.wput _ _ _ _
      · exact h1.mono (by omega)
    generalize wseal a = c at h2
    have h3 : OkP (n + 1 + 2097152 + 2097152) (wsync c).P := by
      unfold wsync
      split
      · exact h2.syncR
      · exact h2
    generalize wsync c = d at h3
    unfold wdrop
    split
    · exact h3.remove _
    · exact h3
/-- what a call that makes a log leaves in memory -/
def Begun (b k mb : Nat) (S : DSt) (B : List ByteArray) (w : World) (R : WR) (e : Ending) (w' : World) : Prop :=
  ∃ S', S'.pl = R.P ∧ RStep (fun _ => False) b k mb S B w S' R.B w' ∧ ((R.e ≠ 0 ∧ e = .returned (.tuple #[.pointer none, .int .i64 R.e])) ∨ (R.e = 0 ∧ ∃ lg, w.heap.size ≤ lg ∧ e = .returned (.tuple #[.pointer (some ⟨lg, 0, none⟩), .int .i64 0]) ∧ LogAt w' lg b k R.L))
/-- a log of the call's own, and the pair -/
structure Stand (b k mb lg : Nat) (S0 : DSt) (B0 : List ByteArray) (w0 : World) (r : WR) (w : World) : Prop where
  lgb : w0.heap.size ≤ lg
  log : LogAt w lg b k r.L
  step : ∃ S', S'.pl = r.P ∧ RStep (fun j => j = lg) b k mb S0 B0 w0 S' r.B w
theorem Stand.done {b k mb lg : Nat} {S0 : DSt} {B0 : List ByteArray} {w0 w : World} {r : WR} (h : Stand b k mb lg S0 B0 w0 r w) : ∃ S', S'.pl = r.P ∧ RStep (fun _ => False) b k mb S0 B0 w0 S' r.B w := by
  obtain ⟨S', hp, hs⟩ := h.step
  refine ⟨S', hp, hs.mono (fun j hj e => ?_)⟩
  have := h.lgb
  omega
theorem Stand.below {b k mb lg : Nat} {S0 : DSt} {B0 : List ByteArray} {w0 w w' : World} {r : WR} (h : Stand b k mb lg S0 B0 w0 r w) (hb : Below w.heap.size w w') : Stand b k mb lg S0 B0 w0 r w' := by
  obtain ⟨S', hp, hs⟩ := h.step
  exact ⟨h.lgb, Blk.below h.log hb, S', hp, hs.below hb⟩
theorem Stand.dev {b k mb lg : Nat} {S0 : DSt} {B0 : List ByteArray} {w0 w w' : World} {r : WR} (h : Stand b k mb lg S0 B0 w0 r w) {P' : PS} (e : Int) (hd : ∀ S', S'.pl = r.P → RStep (fun j => j = lg) b k mb S0 B0 w0 S' r.B w → ∃ S2, Dev b S' w S2 w' ∧ S2.pl = P') : Stand b k mb lg S0 B0 w0 { r with e := e, P := P' } w' := by
  obtain ⟨S', hp, hs⟩ := h.step
  obtain ⟨S2, hd2, hp2⟩ := hd S' hp hs
  obtain ⟨n1, n2, n3⟩ := h.log.not_foot hs.at_
  exact ⟨h.lgb, Blk.touch h.log hd2.touch n1, S2, hp2, hs.trans (hs.at_.step hd2)⟩
set_option maxRecDepth 100000 in
set_option maxHeartbeats 3000000 in
theorem begin_any (b k mb m n : Nat) (S : DSt) (B : List ByteArray) (ad : Option Addr) (cap : Nat) (snap : List ByteArray) (w : World) (h : Rg w b k mb S B) (hok : OkP n S.pl) (hn : n ≤ 890000000) (hm : m < 100000000)
    (hs : StrsAt w ad snap) (hbs : snap ≠ [] → Beside b mb S (fun _ => False) ad) (htl : snap.length ≤ 100000) (hB : B.length + snap.length + 1 ≤ 1000000000) :
    Calls Tryz.prog 44 #[.pointer (some ⟨b, 0, none⟩), .pointer (some ⟨k, 0, none⟩), .int .i64 m, .slice ad snap.length cap] w (Begun b k mb S B w (wbegin S.pl B m snap)) := by
  have HN := Lib.hid (fun W => walName_any m W hm)
  have HF := Lib.hid (fun W => walFirst_any m W hm)
  have HC := Lib.hid (show ∀ W, Below w.heap.size w W → Calls Tryz.prog 28 #[.pointer (some ⟨b, 0, none⟩), .string (wname m)] W fun e W' => e = .returned (.int .i64 (S.pl.create (wname m)).1) ∧ Hid (∃ S', S'.pl = (S.pl.create (wname m)).2 ∧ RStep (fun _ => False) b k mb S B w S' B W') from fun W hb => (create_any b n S (wname m) W (h.dev.below hb) hok (by omega)).mono fun e W' he => by
    obtain ⟨he1, S', hd, hpl⟩ := he
    exact ⟨he1, Lib.hid ⟨S', hpl, h.step (Dev.after hb hd)⟩⟩)
  have HOk1 := Lib.hid (hok.create (wname m))
  have HS := Lib.hid hs
  have HBs := Lib.hid hbs
  have HR0 := Lib.hid (show wbegin S.pl B m snap = (if (S.pl.create (wname m)).1 ≠ 0 then ⟨(S.pl.create (wname m)).1, (S.pl.create (wname m)).2, B, ⟨m, 0, firstM m⟩⟩ else wdrop m (wsync (wseal (wput (S.pl.create (wname m)).2 B ⟨m, 0, firstM m⟩ 83 snap)))) from rfl)
  generalize wbegin S.pl B m snap = R at HR0
  generalize S.pl.create (wname m) = CR at HC HOk1 HR0
  have H := Lib.hid h
  clear h hok hs hbs
  go_enter Tryz.func44, Tryz.ntmps44
  go_wp2_with fail
  refine (HN.out _).mono ?_
  rintro e w1 ⟨rfl, hb1⟩
  have HB1 := Lib.hid hb1
  clear hb1
  go_wp2_with fail
  refine (HC.out _ HB1.out).mono ?_
  rintro e w2 ⟨rfl, HS2⟩
  clear HC HB1
  by_cases hc0 : CR.1 = 0
  · have HR1 : Hid (R = wdrop m (wsync (wseal (wput CR.2 B ⟨m, 0, firstM m⟩ 83 snap)))) := Lib.hid (by rw [HR0.out, if_neg (fun h => h hc0)])
    rw [hc0]
    clear HR0 hc0
    go_wp2_with fail
    refine (HF.out _).mono ?_
    rintro e w3 ⟨rfl, hb3⟩
    have HS3 : Hid (∃ S', S'.pl = CR.2 ∧ RStep (fun _ => False) b k mb S B w S' B w3) := Lib.hid (by
      obtain ⟨S', hp, hs⟩ := HS2.out
      exact ⟨S', hp, hs.below hb3⟩)
    clear hb3 HS2 HF
    go_upto_region 5 with (fail)
    have HSt : Hid (Stand b k mb w3.heap.size S B w ⟨0, CR.2, B, ⟨m, 0, firstM m⟩⟩ (w3.alloc (.cells #[.pointer (some ⟨b, 0, none⟩), .pointer (some ⟨k, 0, none⟩), .int .i64 m, .int .i64 0, .string (firstM m)] 69))) := Lib.hid (by
      obtain ⟨S', hp, hs⟩ := HS3.out
      exact ⟨hs.size, Blk.new w3 (logVals b k ⟨m, 0, firstM m⟩) _, S', hp, (hs.mono (fun j _ h => h.elim)).below ((Below.refl _ w3).alloc (Nat.le_refl _) _)⟩)
    have HLs : Hid (StrsAt (w3.alloc (.cells #[.pointer (some ⟨b, 0, none⟩), .pointer (some ⟨k, 0, none⟩), .int .i64 m, .int .i64 0, .string (firstM m)] 69)) ad snap) := Lib.hid (by
      obtain ⟨S', hp, hs⟩ := HS3.out
      exact strsAt_below (hs.strs HS.out HBs.out) ((Below.refl _ w3).alloc (Nat.le_refl _) _))
    have HBe : Hid (∀ S', RStep (fun j => j = w3.heap.size) b k mb S B w S' B (w3.alloc (.cells #[.pointer (some ⟨b, 0, none⟩), .pointer (some ⟨k, 0, none⟩), .int .i64 m, .int .i64 0, .string (firstM m)] 69)) → snap ≠ [] → Beside b mb S' (fun j => j = w3.heap.size) ad) := Lib.hid (fun S' hs he => by
      obtain ⟨S2, hp2, hs2⟩ := HS3.out
      refine hs.beside HS.out (fun he g off hg => ?_) he
      obtain ⟨q1, q2, q3⟩ := HBs.out he g off hg
      refine ⟨q1, q2, fun e => ?_⟩
      rcases HS.out with h0 | ⟨g', off', e', hl, _⟩
      · exact he h0
      · rw [hg] at e'
        injection e' with e'
        injection e' with e1 _ _
        have := hs2.size
        omega)
    generalize w3.alloc (.cells #[.pointer (some ⟨b, 0, none⟩), .pointer (some ⟨k, 0, none⟩), .int .i64 m, .int .i64 0, .string (firstM m)] 69) = w4 at HSt HLs HBe ⊢
    generalize w3.heap.size = lg at HSt HBe ⊢
    clear HS3
    have HPut := Lib.hid (show Calls Tryz.prog 35 #[.pointer (some ⟨lg, 0, none⟩), .int .u8 83, .slice ad snap.length cap] w4 fun e w' => e = .returned (.int .i64 (wput CR.2 B ⟨m, 0, firstM m⟩ 83 snap).e) ∧ Hid (Stand b k mb lg S B w (wput CR.2 B ⟨m, 0, firstM m⟩ 83 snap) w') from by
      obtain ⟨S', hp, hs⟩ := HSt.out.step
      have hp' : S'.pl = CR.2 := hp
      have hput := put_any b k mb lg (n + 1) S' B ⟨m, 0, firstM m⟩ 83 ad cap snap w4 hs.at_ HSt.out.log (firstG_ok hm) (by rw [hp']; exact HOk1.out) (by omega) HLs.out (HBe.out S' hs) htl (by omega)
      rw [hp'] at hput
      refine hput.mono ?_
      rintro e w' ⟨rfl, S2, hp2, hs2, hl2⟩
      exact ⟨rfl, Lib.hid ⟨HSt.out.lgb, hl2, S2, hp2, hs.trans hs2⟩⟩)
    have hAB := wput_B CR.2 B ⟨m, 0, firstM m⟩ 83 snap
    have HAL := Lib.hid (wput_L (P := CR.2) (B := B) (firstG_ok hm) 83 snap)
    have HOk2 := Lib.hid (HOk1.out.wput B ⟨m, 0, firstM m⟩ 83 snap)
    generalize wput CR.2 B ⟨m, 0, firstM m⟩ 83 snap = a at HPut hAB HAL HOk2 HR1
    clear HSt HLs HBe HOk1
    go_wp2_with fail
    refine HPut.out.mono ?_
    rintro e w5 ⟨rfl, HSt5⟩
    clear HPut
    by_cases ha0 : a.e = 0
    · have hsl : wseal a = wput a.P a.B a.L 69 [⟨#[]⟩] := if_pos ha0
      have HPut2 := Lib.hid (show ∀ W, Hid (Stand b k mb lg S B w a W) → Calls Tryz.prog 35 #[.pointer (some ⟨lg, 0, none⟩), .int .u8 69, .slice (some ⟨W.heap.size, 0, none⟩) 1 1] (W.alloc (.cells #[.string ⟨#[]⟩] 9)) fun e w' => e = .returned (.int .i64 (wseal a).e) ∧ Hid (Stand b k mb lg S B w (wseal a) w') from fun W hW => by
        rw [hsl]
        have hSt := hW.out.below ((Below.refl _ W).alloc (Nat.le_refl _) (.cells #[.string ⟨#[]⟩] 9))
        obtain ⟨S', hp, hs⟩ := hSt.step
        have hbk := Blk.new W [.string ⟨#[]⟩] 9
        have hst : StrsAt (W.alloc (.cells #[.string ⟨#[]⟩] 9)) (some ⟨W.heap.size, 0, none⟩) [⟨#[]⟩] := Or.inr ⟨W.heap.size, 0, rfl, hbk.lt, fun i hi => by
          have h0 : i = 0 := by simpa using hi
          subst h0
          exact hbk.cell 0⟩
        have hput := put_any b k mb lg (n + 1 + 2097152) S' a.B a.L 69 (some ⟨W.heap.size, 0, none⟩) 1 [⟨#[]⟩] _ hs.at_ hSt.log HAL.out (by rw [hp]; exact HOk2.out) (by omega) hst (fun _ g off hg => by
          injection hg with hg
          injection hg with hg _ _
          subst hg
          refine ⟨foot_not hs.at_.dev hbk (by decide), hs.at_.book.mb_ne hbk, fun e => ?_⟩
          exact (Blk.ne hbk hSt.log (by decide)) e) (by decide) (by show a.B.length + 1 ≤ _; omega)
        rw [hp] at hput
        refine hput.mono ?_
        rintro e w' ⟨rfl, S2, hp2, hs2, hl2⟩
        exact ⟨rfl, Lib.hid ⟨hSt.lgb, hl2, S2, hp2, hs.trans hs2⟩⟩)
      have HOk3 : Hid (OkP (n + 1 + 2097152 + 2097152) (wseal a).P) := Lib.hid (by rw [hsl]; exact HOk2.out.wput _ _ _ _)
      rw [ha0]
      clear hsl HOk2
      generalize wseal a = c at HPut2 HR1 HOk3
      go_wp2_with fail
      refine (HPut2.out _ HSt5).mono ?_
      rintro e w6 ⟨rfl, HSt6⟩
      clear HPut2 HSt5
      by_cases hc0 : c.e = 0
      · have HR2 : Hid (R = wdrop m { c with e := c.P.syncR.1, P := c.P.syncR.2 }) := Lib.hid (by rw [HR1.out]; unfold wsync; rw [if_pos hc0])
        have HSy := Lib.hid (show Calls Tryz.prog 36 #[.pointer (some ⟨b, 0, none⟩)] w6 fun e w' => e = .returned (.int .i64 c.P.syncR.1) ∧ Hid (Stand b k mb lg S B w { c with e := c.P.syncR.1, P := c.P.syncR.2 } w') from by
          obtain ⟨S', hp, hs⟩ := HSt6.out.step
          have hsy := sync_pl hs.at_.dev (by rw [hp]; exact HOk3.out) (by omega)
          rw [hp] at hsy
          refine hsy.mono ?_
          rintro e w' ⟨rfl, S2, hd2, hp2⟩
          obtain ⟨n1, n2, n3⟩ := HSt6.out.log.not_foot hs.at_
          exact ⟨rfl, Lib.hid ⟨HSt6.out.lgb, Blk.touch HSt6.out.log hd2.touch n1, S2, hp2, hs.trans (hs.at_.step hd2)⟩⟩)
        have hsy := syncR_two c.P
        rw [hc0]
        clear HR1 HSt6 hc0
        rcases hsy with h0 | h14
        · have HR3 : Hid (R = { c with e := 0, P := c.P.syncR.2 }) := Lib.hid (by rw [HR2.out, h0]; unfold wdrop; rw [if_neg (by show ¬ ((0 : Int) = 7 ∨ (0 : Int) = 4); omega)])
          rw [h0] at HSy
          go_wp2_with fail
          refine HSy.out.mono ?_
          rintro e w7 ⟨rfl, HSt7⟩
          go_wp2_with fail
          go_ret2
          obtain ⟨S', hp, hs⟩ := HSt7.out.done
          exact ⟨S', by rw [HR3.out]; exact hp, by rw [HR3.out]; exact hs, Or.inr ⟨by rw [HR3.out], lg, HSt7.out.lgb, rfl, by rw [HR3.out]; exact HSt7.out.log⟩⟩
        · have HR3 : Hid (R = { c with e := 14, P := c.P.syncR.2 }) := Lib.hid (by rw [HR2.out, h14]; unfold wdrop; rw [if_neg (by show ¬ ((14 : Int) = 7 ∨ (14 : Int) = 4); omega)])
          rw [h14] at HSy
          go_wp2_with fail
          refine HSy.out.mono ?_
          rintro e w7 ⟨rfl, HSt7⟩
          go_wp2_with fail
          go_ret2
          obtain ⟨S', hp, hs⟩ := HSt7.out.done
          exact ⟨S', by rw [HR3.out]; exact hp, by rw [HR3.out]; exact hs, Or.inl ⟨by rw [HR3.out]; show (14 : Int) ≠ 0; omega, by rw [HR3.out]; rfl⟩⟩
      · have HR2 : Hid (R = wdrop m c) := Lib.hid (by rw [HR1.out]; unfold wsync; rw [if_neg hc0])
        clear HR1
        have hcn0 : (c.e == 0) = false := by rw [beq_eq_false_iff_ne]; assumption
        have hcn1 : (c.e != 0) = true := by rw [bne_iff_ne]; assumption
        have Hcn0 : Hid (c.e ≠ 0) := Lib.hid (by assumption)
        by_cases h74 : c.e = 7 ∨ c.e = 4
        · have HR3 : Hid (R = { c with P := (c.P.remove (wname m)).2 }) := Lib.hid (by rw [HR2.out]; unfold wdrop; rw [if_pos h74])
          have HRm := Lib.hid (show ∀ W, Hid (Stand b k mb lg S B w c W) → Calls Tryz.prog 41 #[.pointer (some ⟨b, 0, none⟩), .string (wname m)] W fun e w' => e = .returned (.int .i64 (c.P.remove (wname m)).1) ∧ Hid (Stand b k mb lg S B w { c with P := (c.P.remove (wname m)).2 } w') from fun W hW => by
            obtain ⟨S', hp, hs⟩ := hW.out.step
            have hsy := remove_any b (n + 1 + 2097152 + 2097152) S' (wname m) W hs.at_.dev (by rw [hp]; exact HOk3.out) (by omega)
            rw [hp] at hsy
            refine hsy.mono ?_
            rintro e w' ⟨rfl, S2, hd2, hp2⟩
            obtain ⟨n1, n2, n3⟩ := hW.out.log.not_foot hs.at_
            exact ⟨rfl, Lib.hid ⟨hW.out.lgb, Blk.touch hW.out.log hd2.touch n1, S2, hp2, hs.trans (hs.at_.step hd2)⟩⟩)
          have h74b : ((c.e == 7) || (c.e == 4)) = true := by
            rw [Bool.or_eq_true, beq_iff_eq, beq_iff_eq]; exact h74
          clear HR2
          by_cases h7 : c.e = 7
          · have h7b : (c.e == 7) = true := by rw [beq_iff_eq]; exact h7
            clear h7 h74
            go_wp2_with fail
            refine (HN.out _).mono ?_
            rintro e w8 ⟨rfl, hb8⟩
            have HSt8 := Lib.hid (HSt6.out.below hb8)
            clear hb8
            go_wp2_with fail
            refine (HRm.out _ HSt8).mono ?_
            rintro e w9 ⟨rfl, HSt9⟩
            go_wp2_with fail
            go_ret2
            obtain ⟨S', hp, hs⟩ := HSt9.out.done
            exact ⟨S', by rw [HR3.out]; exact hp, by rw [HR3.out]; exact hs, Or.inl ⟨by rw [HR3.out]; exact Hcn0.out, by rw [HR3.out]; rfl⟩⟩
          · have h7b : (c.e == 7) = false := by rw [beq_eq_false_iff_ne]; exact h7
            have h4b : (c.e == 4) = true := by rw [beq_iff_eq]; exact h74.resolve_left h7
            clear h7 h74
            go_wp2_with fail
            refine (HN.out _).mono ?_
            rintro e w8 ⟨rfl, hb8⟩
            have HSt8 := Lib.hid (HSt6.out.below hb8)
            clear hb8
            go_wp2_with fail
            refine (HRm.out _ HSt8).mono ?_
            rintro e w9 ⟨rfl, HSt9⟩
            go_wp2_with fail
            go_ret2
            obtain ⟨S', hp, hs⟩ := HSt9.out.done
            exact ⟨S', by rw [HR3.out]; exact hp, by rw [HR3.out]; exact hs, Or.inl ⟨by rw [HR3.out]; exact Hcn0.out, by rw [HR3.out]; rfl⟩⟩
        · have HR3 : Hid (R = c) := Lib.hid (by rw [HR2.out]; unfold wdrop; rw [if_neg h74])
          have h7b : (c.e == 7) = false := by rw [beq_eq_false_iff_ne]; exact fun h => h74 (Or.inl h)
          have h4b : (c.e == 4) = false := by rw [beq_eq_false_iff_ne]; exact fun h => h74 (Or.inr h)
          clear HR2 h74
          go_wp2_with fail
          go_ret2
          obtain ⟨S', hp, hs⟩ := HSt6.out.done
          exact ⟨S', by rw [HR3.out]; exact hp, by rw [HR3.out]; exact hs, Or.inl ⟨by rw [HR3.out]; exact Hcn0.out, by rw [HR3.out]; rfl⟩⟩
    · have HR2 : Hid (R = wdrop m a) := Lib.hid (by rw [HR1.out]; unfold wseal; rw [if_neg ha0]; unfold wsync; rw [if_neg ha0])
      have HOk3 : Hid (OkP (n + 1 + 2097152 + 2097152) a.P) := Lib.hid (HOk2.out.mono (by omega))
      clear HR1 HOk2
      have han0 : (a.e == 0) = false := by rw [beq_eq_false_iff_ne]; assumption
      have han1 : (a.e != 0) = true := by rw [bne_iff_ne]; assumption
      have Han0 : Hid (a.e ≠ 0) := Lib.hid (by assumption)
      by_cases h74 : a.e = 7 ∨ a.e = 4
      · have HR3 : Hid (R = { a with P := (a.P.remove (wname m)).2 }) := Lib.hid (by rw [HR2.out]; unfold wdrop; rw [if_pos h74])
        have HRm := Lib.hid (show ∀ W, Hid (Stand b k mb lg S B w a W) → Calls Tryz.prog 41 #[.pointer (some ⟨b, 0, none⟩), .string (wname m)] W fun e w' => e = .returned (.int .i64 (a.P.remove (wname m)).1) ∧ Hid (Stand b k mb lg S B w { a with P := (a.P.remove (wname m)).2 } w') from fun W hW => by
          obtain ⟨S', hp, hs⟩ := hW.out.step
          have hsy := remove_any b (n + 1 + 2097152 + 2097152) S' (wname m) W hs.at_.dev (by rw [hp]; exact HOk3.out) (by omega)
          rw [hp] at hsy
          refine hsy.mono ?_
          rintro e w' ⟨rfl, S2, hd2, hp2⟩
          obtain ⟨n1, n2, n3⟩ := hW.out.log.not_foot hs.at_
          exact ⟨rfl, Lib.hid ⟨hW.out.lgb, Blk.touch hW.out.log hd2.touch n1, S2, hp2, hs.trans (hs.at_.step hd2)⟩⟩)
        have h74b : ((a.e == 7) || (a.e == 4)) = true := by
          rw [Bool.or_eq_true, beq_iff_eq, beq_iff_eq]; exact h74
        clear HR2
        by_cases h7 : a.e = 7
        · have h7b : (a.e == 7) = true := by rw [beq_iff_eq]; exact h7
          clear h7 h74
          go_wp2_with fail
          refine (HN.out _).mono ?_
          rintro e w8 ⟨rfl, hb8⟩
          have HSt8 := Lib.hid (HSt5.out.below hb8)
          clear hb8
          go_wp2_with fail
          refine (HRm.out _ HSt8).mono ?_
          rintro e w9 ⟨rfl, HSt9⟩
          go_wp2_with fail
          go_ret2
          obtain ⟨S', hp, hs⟩ := HSt9.out.done
          exact ⟨S', by rw [HR3.out]; exact hp, by rw [HR3.out]; exact hs, Or.inl ⟨by rw [HR3.out]; exact Han0.out, by rw [HR3.out]; rfl⟩⟩
        · have h7b : (a.e == 7) = false := by rw [beq_eq_false_iff_ne]; exact h7
          have h4b : (a.e == 4) = true := by rw [beq_iff_eq]; exact h74.resolve_left h7
          clear h7 h74
          go_wp2_with fail
          refine (HN.out _).mono ?_
          rintro e w8 ⟨rfl, hb8⟩
          have HSt8 := Lib.hid (HSt5.out.below hb8)
          clear hb8
          go_wp2_with fail
          refine (HRm.out _ HSt8).mono ?_
          rintro e w9 ⟨rfl, HSt9⟩
          go_wp2_with fail
          go_ret2
          obtain ⟨S', hp, hs⟩ := HSt9.out.done
          exact ⟨S', by rw [HR3.out]; exact hp, by rw [HR3.out]; exact hs, Or.inl ⟨by rw [HR3.out]; exact Han0.out, by rw [HR3.out]; rfl⟩⟩
      · have HR3 : Hid (R = a) := Lib.hid (by rw [HR2.out]; unfold wdrop; rw [if_neg h74])
        have h7b : (a.e == 7) = false := by rw [beq_eq_false_iff_ne]; exact fun h => h74 (Or.inl h)
        have h4b : (a.e == 4) = false := by rw [beq_eq_false_iff_ne]; exact fun h => h74 (Or.inr h)
        clear HR2 h74
        go_wp2_with fail
        go_ret2
        obtain ⟨S', hp, hs⟩ := HSt5.out.done
        exact ⟨S', by rw [HR3.out]; exact hp, by rw [HR3.out]; exact hs, Or.inl ⟨by rw [HR3.out]; exact Han0.out, by rw [HR3.out]; rfl⟩⟩
  · have HR1 : Hid (R = ⟨CR.1, CR.2, B, ⟨m, 0, firstM m⟩⟩) := Lib.hid (by rw [HR0.out, if_pos hc0])
    have hb : (CR.1 != 0) = true := by rw [bne_iff_ne]; exact hc0
    have Hc0 := Lib.hid hc0
    clear HR0 hc0
    go_wp2_with fail
    go_ret2
    obtain ⟨S', hp, hs⟩ := HS2.out
    exact ⟨S', by rw [HR1.out]; exact hp, by rw [HR1.out]; exact hs, Or.inl ⟨by rw [HR1.out]; exact Hc0.out, by rw [HR1.out]; rfl⟩⟩
end Go.Proofs.YtkllnihhhgaojaaGreatDoor
