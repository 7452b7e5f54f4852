/- The walks of depose, of Handle at a nack, and of Handle at a promise while it leads and knows nothing. No condition. -/
import Derived.Test.YtmmnaieikfekfaaGreatDoorLead
import Derived.Test.YtmmnaieikfekfaaGreatDoorHeap2
namespace Go.Proofs.YtmmnaieikfekfaaGreatDoor
open Go Go.RowKit
set_option linter.unusedVariables false

set_option maxRecDepth 100000 in
theorem end_none (b : Nat) (c : CSt) (e g f : Int) (fa ma : Option Addr) (fl fc ml mc : Nat) (w : World) (h : CoordAt w b c) (hc : c.call = .pointer none) :
    Calls Tryz.prog 38 #[.pointer (some ⟨b, 0, none⟩), .agg #[.int .i64 e, .int .i64 g, .int .i64 f, .slice fa fl fc, .slice ma ml mc]] w fun x w' => x = .returned (.tuple #[]) ∧ Below w.heap.size w w' := by
  have hbl := h.1.lt
  have h86 : w.cell? ⟨b, 86, none⟩ = some (.pointer none) := by have := h.ft 2; rw [← hc]; exact this
  have HB0 := Lib.hid ((Below.refl w.heap.size w).alloc (Nat.le_refl _) (.cells #[.int .i64 e, .int .i64 g, .int .i64 f, .slice fa fl fc, .slice ma ml mc] 34))
  clear h hc
  go_enter Tryz.func38, Tryz.ntmps38
  go_wp2
  refine bodyPost_ret (results_none rfl _ _ _) rfl ?_
  exact ⟨rfl, HB0.out⟩
def CSt.gone (c : CSt) : CSt := { c with phase := 0, job := .pointer none, fetch := .pointer none }
theorem gone_at {w : World} {b : Nat} {c : CSt} (h : CoordAt w b c) : CoordAt (((w.setCell ⟨b, 4, none⟩ (.int .i64 0)).setCell ⟨b, 84, none⟩ (.pointer none)).setCell ⟨b, 85, none⟩ (.pointer none)) b c.gone := by
  have h1 : CoordAt (w.setCell ⟨b, 4, none⟩ (.int .i64 0)) b { c with phase := 0 } := ⟨h.1.set 4 _, h.2⟩
  have h2 : CoordAt ((w.setCell ⟨b, 4, none⟩ (.int .i64 0)).setCell ⟨b, 84, none⟩ (.pointer none)) b { c with phase := 0, job := .pointer none } := h1.setFt 0 _ _ rfl rfl rfl
  exact h2.setFt 1 _ _ rfl rfl rfl
theorem gone_touch {w0 w : World} {b : Nat} (h : Touch (fun k => k = b) w0 w) : Touch (fun k => k = b) w0 (((w.setCell ⟨b, 4, none⟩ (.int .i64 0)).setCell ⟨b, 84, none⟩ (.pointer none)).setCell ⟨b, 85, none⟩ (.pointer none)) := touchOne_set (touchOne_set (touchOne_set h _) _) _

set_option maxRecDepth 100000 in
set_option maxHeartbeats 2000000 in
theorem depose_none (b : Nat) (c : CSt) (w : World) (h : CoordAt w b c) (hc : c.call = .pointer none) :
    Calls Tryz.prog 44 #[.pointer (some ⟨b, 0, none⟩)] w fun x w' => x = .returned (.tuple #[]) ∧ CoordAt w' b c.gone ∧ Touch (fun k => k = b) w w' := by
  have H := Lib.hid h
  have Hc := Lib.hid hc
  clear h hc
  go_enter Tryz.func44, Tryz.ntmps44
  go_wp2_with fail
  refine (end_none b c 16 0 0 none none 0 0 0 0 _ H.out Hc.out).mono ?_
  rintro e w1 ⟨rfl, hb1⟩
  have H1 := Lib.hid (H.out.below hb1)
  have HT1 := Lib.hid (Touch.of_below (S := fun k => k = b) hb1)
  have c4 : w1.cell? ⟨b, 4, none⟩ = some (.int .i64 c.phase) := H1.out.hd 4 (by omega)
  have c84 : w1.cell? ⟨b, 84, none⟩ = some c.job := H1.out.ft 0
  have c85 : w1.cell? ⟨b, 85, none⟩ = some c.fetch := H1.out.ft 1
  have f4 := H1.out.1.free 4
  have f84 := H1.out.1.free 84
  have f85 := H1.out.1.free 85
  clear H hb1
  go_wp2_with fail
  go_end0
  exact ⟨rfl, gone_at H1.out, gone_touch HT1.out⟩
set_option maxRecDepth 100000 in
set_option maxHeartbeats 2000000 in
theorem depose_call (b k : Nat) (c : CSt) (w : World) (h : CoordAt w b c) (hc : c.call = .pointer (some ⟨k, 0, none⟩)) (hj : c.job = .pointer none) :
    Calls Tryz.prog 44 #[.pointer (some ⟨b, 0, none⟩)] w fun x w' => x = .returned (.tuple #[]) ∧ ∃ a, w.heap.size ≤ a ∧ answerAt w' a 16 0 0 ∧ CoordAt w' b ((c.ended (.pointer (some ⟨a, 0, none⟩))).gone) ∧ Touch (fun k => k = b) w w' := by
  have H := Lib.hid h
  have Hc := Lib.hid hc
  have Hj := Lib.hid hj
  clear h hc hj
  go_enter Tryz.func44, Tryz.ntmps44
  go_wp2_with fail
  refine (end_call b k c 16 0 0 none none 0 0 0 0 _ H.out Hc.out Hj.out).mono ?_
  rintro e w1 ⟨rfl, a, ha0, hA, hC, hT⟩
  have H1 := Lib.hid hC
  have HT1 := Lib.hid hT
  have HA1 := Lib.hid hA
  have hab : a ≠ b := by have := H.out.1.lt; omega
  have c4 : w1.cell? ⟨b, 4, none⟩ = some (.int .i64 c.phase) := H1.out.hd 4 (by omega)
  have c84 : w1.cell? ⟨b, 84, none⟩ = some c.job := H1.out.ft 0
  have c85 : w1.cell? ⟨b, 85, none⟩ = some c.fetch := H1.out.ft 1
  have f4 := H1.out.1.free 4
  have f84 := H1.out.1.free 84
  have f85 := H1.out.1.free 85
  clear H hA hC hT
  go_wp2_with fail
  go_end0
  exact ⟨rfl, a, ha0, ((HA1.out.set_other (a := ⟨b, 4, none⟩) hab _).set_other (a := ⟨b, 84, none⟩) hab _).set_other (a := ⟨b, 85, none⟩) hab _, gone_at H1.out, gone_touch HT1.out⟩

/-- a nack's cells -/
def nackVals (from_ to_ bal gen basis fl tp rd : Int) (mk : ByteArray) (pa po : Int) (pt : ByteArray) (ls : Value) : List Value := [.int .i64 3, .int .i64 from_, .int .i64 to_, .int .i64 bal, .int .i64 gen, .int .i64 basis, .int .i64 fl, .int .i64 tp, .int .i64 rd, .string mk, .int .i64 pa, .int .i64 po, .string pt, ls]
def staleP (S : CSt) (from_ to_ bal : Int) : Prop := to_ = S.id ∧ 0 ≤ from_ ∧ from_ < S.n ∧ S.ballot < bal
set_option maxRecDepth 100000 in
set_option maxHeartbeats 4000000 in
/-- Handle at a nack that tells of no greater ballot, or is another one's -/
theorem nack_no (b : Nat) (S : CSt) (from_ to_ bal : Int) (x4 x5 x6 x7 x8 x9 x10 x11 x12 x13 : Value) (w : World) (h : CoordAt w b S) (hn : 1 ≤ S.n) (hph : (S.phase == 0) = false) (hs : ¬ staleP S from_ to_ bal) :
    Calls Tryz.prog 25 #[.pointer (some ⟨b, 0, none⟩), .agg #[.int .i64 3, .int .i64 from_, .int .i64 to_, .int .i64 bal, x4, x5, x6, x7, x8, x9, x10, x11, x12, x13]] w fun e w' => e = .returned (.tuple #[]) ∧ Below w.heap.size w w' := by
  have hbl := h.1.lt
  have c0 : w.cell? ⟨b, 0, none⟩ = some (.int .i64 S.id) := h.hd 0 (by omega)
  have c1 : w.cell? ⟨b, 1, none⟩ = some (.int .i64 S.n) := h.hd 1 (by omega)
  have c3 : w.cell? ⟨b, 3, none⟩ = some (.int .i64 S.ballot) := h.hd 3 (by omega)
  have c4 : w.cell? ⟨b, 4, none⟩ = some (.int .i64 S.phase) := h.hd 4 (by omega)
  have Hat1 := Lib.hid (h.alloc (.cells #[.int .i64 3, .int .i64 from_, .int .i64 to_, .int .i64 bal, x4, x5, x6, x7, x8, x9, x10, x11, x12, x13] 61))
  have HB := Lib.hid ((Below.refl w.heap.size w).alloc (Nat.le_refl _) (.cells #[.int .i64 3, .int .i64 from_, .int .i64 to_, .int .i64 bal, x4, x5, x6, x7, x8, x9, x10, x11, x12, x13] 61))
  clear h
  unfold staleP at hs
  generalize S.id = id at c0 hs
  generalize hN : S.n = N at c1 hs
  generalize S.ballot = bl at c3 hs
  generalize S.phase = ph at c4 hph
  have Hn := Lib.hid (show 1 ≤ S.n from hn)
  rw [hN] at hn
  clear hN
  by_cases h1 : to_ = id
  · subst h1
    have e1 : (to_ != to_) = false := by simp
    by_cases h2 : from_ < 0
    · have Hs := Lib.hid hs
      clear hs
      go_enter Tryz.func25, Tryz.ntmps25
      go_wp2
      go_quiet ((go_at_call 32; first | exact quiet_left (none_any b S _ (Hat1.out.drewN _) Hn.out) | exact quiet_add_left (none_any b S _ (Hat1.out.drewN _) Hn.out)))
      go_wp2
      refine bodyPost_ret (results_none rfl _ _ _) rfl ?_
      first | exact ⟨rfl, below_drewN HB.out _⟩ | exact ⟨rfl, below_drewN (below_drewN HB.out _) _⟩
    · by_cases h3 : from_ < N
      · have h4 : ¬ bl < bal := fun h => hs ⟨rfl, by omega, h3, h⟩
        clear hs
        go_enter Tryz.func25, Tryz.ntmps25
        go_wp2
        go_quiet ((go_at_call 32; first | exact quiet_left (none_any b S _ (Hat1.out.drewN _) Hn.out) | exact quiet_add_left (none_any b S _ (Hat1.out.drewN _) Hn.out)))
        go_wp2
        go_quiet (fail)
        go_wp2
        refine bodyPost_ret (results_none rfl _ _ _) rfl ?_
        first | exact ⟨rfl, below_drewN HB.out _⟩ | exact ⟨rfl, below_drewN (below_drewN HB.out _) _⟩
      · clear hs
        go_enter Tryz.func25, Tryz.ntmps25
        go_wp2
        go_quiet ((go_at_call 32; first | exact quiet_left (none_any b S _ (Hat1.out.drewN _) Hn.out) | exact quiet_add_left (none_any b S _ (Hat1.out.drewN _) Hn.out)))
        go_wp2
        refine bodyPost_ret (results_none rfl _ _ _) rfl ?_
        first | exact ⟨rfl, below_drewN HB.out _⟩ | exact ⟨rfl, below_drewN (below_drewN HB.out _) _⟩
  · have e1 : (to_ != id) = true := by rw [bne_iff_ne]; exact h1
    clear hs h1
    go_enter Tryz.func25, Tryz.ntmps25
    go_wp2
    go_quiet ((go_at_call 32; first | exact quiet_left (none_any b S _ (Hat1.out.drewN _) Hn.out) | exact quiet_add_left (none_any b S _ (Hat1.out.drewN _) Hn.out)))
    go_wp2
    refine bodyPost_ret (results_none rfl _ _ _) rfl ?_
    first | exact ⟨rfl, below_drewN HB.out _⟩ | exact ⟨rfl, below_drewN (below_drewN HB.out _) _⟩
set_option maxRecDepth 100000 in
set_option maxHeartbeats 4000000 in
/-- Handle at a nack of a vault of its own that tells of a greater ballot: what depose does -/
theorem nack_yes {R : World → Prop} (b : Nat) (S : CSt) (from_ to_ bal : Int) (x4 x5 x6 x7 x8 x9 x10 x11 x12 x13 : Value) (w : World) (h : CoordAt w b S) (hn : 1 ≤ S.n) (hph : (S.phase == 0) = false) (hs : staleP S from_ to_ bal)
    (hD : ∀ w1, Below w.heap.size w w1 → Calls Tryz.prog 44 #[.pointer (some ⟨b, 0, none⟩)] w1 fun e w' => e = .returned (.tuple #[]) ∧ R w') :
    Calls Tryz.prog 25 #[.pointer (some ⟨b, 0, none⟩), .agg #[.int .i64 3, .int .i64 from_, .int .i64 to_, .int .i64 bal, x4, x5, x6, x7, x8, x9, x10, x11, x12, x13]] w fun e w' => e = .returned (.tuple #[]) ∧ R w' := by
  have hbl := h.1.lt
  have c0 : w.cell? ⟨b, 0, none⟩ = some (.int .i64 S.id) := h.hd 0 (by omega)
  have c1 : w.cell? ⟨b, 1, none⟩ = some (.int .i64 S.n) := h.hd 1 (by omega)
  have c3 : w.cell? ⟨b, 3, none⟩ = some (.int .i64 S.ballot) := h.hd 3 (by omega)
  have c4 : w.cell? ⟨b, 4, none⟩ = some (.int .i64 S.phase) := h.hd 4 (by omega)
  have Hat1 := Lib.hid (h.alloc (.cells #[.int .i64 3, .int .i64 from_, .int .i64 to_, .int .i64 bal, x4, x5, x6, x7, x8, x9, x10, x11, x12, x13] 61))
  have HB := Lib.hid ((Below.refl w.heap.size w).alloc (Nat.le_refl _) (.cells #[.int .i64 3, .int .i64 from_, .int .i64 to_, .int .i64 bal, x4, x5, x6, x7, x8, x9, x10, x11, x12, x13] 61))
  have HD := Lib.hid hD
  clear h hD
  unfold staleP at hs
  obtain ⟨h1, h2, h3, h4⟩ := hs
  have Hn := Lib.hid (show 1 ≤ S.n from hn)
  generalize S.id = id at c0 h1
  subst h1
  have e1 : (to_ != to_) = false := by simp
  go_enter Tryz.func25, Tryz.ntmps25
  go_wp2
  go_quiet ((go_at_call 32; first | exact quiet_left (none_any b S _ (Hat1.out.drewN _) Hn.out) | exact quiet_add_left (none_any b S _ (Hat1.out.drewN _) Hn.out)))
  go_wp2
  go_quiet (fail)
  go_wp2_with fail
  refine (HD.out _ (below_drewN HB.out _)).mono ?_
  rintro e w2 ⟨rfl, hR⟩
  have HR := Lib.hid hR
  clear hR
  go_wp2_with fail
  refine bodyPost_ret (results_none rfl _ _ _) rfl ?_
  exact ⟨rfl, HR.out⟩
end Go.Proofs.YtmmnaieikfekfaaGreatDoor
