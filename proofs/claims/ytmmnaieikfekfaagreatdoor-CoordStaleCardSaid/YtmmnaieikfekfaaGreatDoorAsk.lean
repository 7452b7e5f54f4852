/- The walks of a coordinator's end, right, Ask, Take with an answer, and Tick while it prepares and a call is there. No condition. -/
import Derived.Test.YtmmnaieikfekfaaGreatDoorFar
import Derived.Test.YtmmnaieikfekfaaGreatDoorFresh
namespace Go.Proofs.YtmmnaieikfekfaaGreatDoor
open Go.RowKit
set_option linter.unusedVariables false

theorem CoordAt.setFt {w : World} {b : Nat} {c : CSt} (h : CoordAt w b c) (j : Nat) (v : Value) (c' : CSt) (hh : c'.head = c.head) (hp : c'.peers = c.peers) (hf : c'.foot = c.foot.set j v) : CoordAt (w.setCell ⟨b, 84 + j, none⟩ v) b c' := by
  have e : c'.cells = c.cells.set (84 + j) v := by
    have h12 : c.head.length = 12 := rfl
    have h72 := h.2
    unfold CSt.cells
    rw [hh, hp, hf, List.set_append_right _ _ (by omega), List.set_append_right _ _ (by omega)]
    congr 3
    omega
  refine ⟨?_, by rw [hp]; exact h.2⟩
  rw [e]
  exact h.1.set _ _
def CSt.ended (c : CSt) (v : Value) : CSt := { c with call := .pointer none, yes := .pointer none, pruned := .pointer none, answer := v }
def ansVals (e g f : Int) (fs ms : Value) : List Value := [.int .i64 e, .int .i64 g, .int .i64 f, fs, ms]

set_option maxRecDepth 100000 in
set_option maxHeartbeats 2000000 in
/-- end: the call is answered -/
theorem end_call (b k : Nat) (c : CSt) (e g f : Int) (fa ma : Option Addr) (fl fc ml mc : Nat) (w : World) (h : CoordAt w b c) (hc : c.call = .pointer (some ⟨k, 0, none⟩)) (hj : c.job = .pointer none) :
    Calls Tryz.prog 38 #[.pointer (some ⟨b, 0, none⟩), .agg #[.int .i64 e, .int .i64 g, .int .i64 f, .slice fa fl fc, .slice ma ml mc]] w fun x w' => x = .returned (.tuple #[]) ∧ ∃ a, w.heap.size ≤ a ∧ Blk w' a (ansVals e g f (.slice fa fl fc) (.slice ma ml mc)) 34 ∧ CoordAt w' b (c.ended (.pointer (some ⟨a, 0, none⟩))) ∧ Touch (fun k => k = b) w w' := by
  have hbl := h.1.lt
  have h84 : w.cell? ⟨b, 84, none⟩ = some (.pointer none) := by have := h.ft 0; rw [← hj]; exact this
  have h86 : w.cell? ⟨b, 86, none⟩ = some (.pointer (some ⟨k, 0, none⟩)) := by have := h.ft 2; rw [← hc]; exact this
  have h89 : w.cell? ⟨b, 89, none⟩ = some c.yes := h.ft 5
  have h90 : w.cell? ⟨b, 90, none⟩ = some c.pruned := h.ft 6
  have h91 : w.cell? ⟨b, 91, none⟩ = some c.answer := h.ft 7
  have hfz : ∀ o, w.frozen? ⟨b, o, none⟩ = false := fun o => h.1.free o
  have hba : b ≠ w.heap.size := by omega
  have H := Lib.hid h
  have f86 := hfz 86
  have f89 := hfz 89
  have f90 := hfz 90
  have f91 := hfz 91
  clear h hc hj hfz
  go_enter Tryz.func38, Tryz.ntmps38
  go_wp2
  have h1 := H.out.setFt 2 (.pointer none) { c with call := .pointer none } rfl rfl rfl
  have h2 := h1.setFt 5 (.pointer none) { c with call := .pointer none, yes := .pointer none } rfl rfl rfl
  have h3 := h2.setFt 6 (.pointer none) { c with call := .pointer none, yes := .pointer none, pruned := .pointer none } rfl rfl rfl
  have h4 := h3.setFt 7 (.pointer (some ⟨w.heap.size, 0, none⟩)) (c.ended (.pointer (some ⟨w.heap.size, 0, none⟩))) rfl rfl rfl
  have t3 := touchOne_set (o := 84 + 6) (touchOne_set (o := 84 + 5) (touchOne_set (o := 84 + 2) (Touch.refl (fun k => k = b) w) (.pointer none)) (.pointer none)) (.pointer none)
  have t4 := touchOne_set (o := 84 + 7) t3 (.pointer (some ⟨w.heap.size, 0, none⟩))
  have hs : ((((w.setCell ⟨b, 84 + 2, none⟩ (.pointer none)).setCell ⟨b, 84 + 5, none⟩ (.pointer none)).setCell ⟨b, 84 + 6, none⟩ (.pointer none)).setCell ⟨b, 84 + 7, none⟩ (.pointer (some ⟨w.heap.size, 0, none⟩))).heap.size = w.heap.size := by simp [World.setCell]
  have hA := (Blk.new ((((w.setCell ⟨b, 84 + 2, none⟩ (.pointer none)).setCell ⟨b, 84 + 5, none⟩ (.pointer none)).setCell ⟨b, 84 + 6, none⟩ (.pointer none)).setCell ⟨b, 84 + 7, none⟩ (.pointer (some ⟨w.heap.size, 0, none⟩))) (ansVals e g f (.slice fa fl fc) (.slice ma ml mc)) 34)
  rw [hs] at hA
  have h5 := h4.alloc (.cells (ansVals e g f (.slice fa fl fc) (.slice ma ml mc)).toArray 34)
  have t5 := t4.alloc (.cells (ansVals e g f (.slice fa fl fc) (.slice ma ml mc)).toArray 34)
  go_end0
  exact ⟨rfl, w.heap.size, Nat.le_refl _, hA, h5, t5⟩

set_option maxRecDepth 100000 in
set_option maxHeartbeats 2000000 in
theorem tick_wait (b t k : Nat) (c : CSt) (m : List Bool) (n : Nat) (w : World) (h : CoordAt w b c) (hn : c.n = (n : Int)) (hn1 : 1 ≤ n) (hn9 : n ≤ 9) (hp : c.promised = .pointer (some ⟨t, 0, none⟩)) (ht : TallyAt w t n m) (hph : c.phase = 1)
    (hc : c.call = .pointer (some ⟨k, 0, none⟩)) (hl : 2 ≤ c.left) (hl2 : c.left ≤ 1000) :
    Calls Tryz.prog 24 #[.pointer (some ⟨b, 0, none⟩)] w fun e w' => ∃ v, e = .returned v ∧ w'.ownsRow w.heap.size 61 14 v (lackers m n).length (askVals c (lackers m n)) ∧ CoordAt w' b { c with left := c.left - 1 } ∧ Touch (fun k => k = b) w w' := by
  have h4 : w.cell? ⟨b, 4, none⟩ = some (.int .i64 1) := by rw [← hph]; exact h.hd 4 (by omega)
  have h86 : w.cell? ⟨b, 86, none⟩ = some (.pointer (some ⟨k, 0, none⟩)) := by have := h.ft 2; rw [← hc]; exact this
  have h87 : w.cell? ⟨b, 87, none⟩ = some (.int .i64 c.left) := h.ft 3
  have f87 : w.frozen? ⟨b, 87, none⟩ = false := h.1.free 87
  have hbt : t ≠ b := ht.1.ne h.1 (by decide)
  have hbl := h.1.lt
  have H2 := Lib.hid (h.setFt 3 (.int .i64 (c.left - 1)) { c with left := c.left - 1 } rfl rfl rfl)
  have HT2 := Lib.hid (show TallyAt (w.setCell ⟨b, 84 + 3, none⟩ (.int .i64 (c.left - 1))) t n m from ⟨ht.1.set_other (a := ⟨b, 84 + 3, none⟩) hbt _, ht.2⟩)
  have HTo := Lib.hid (touchOne_set (o := 84 + 3) (Touch.refl (fun k => k = b) w) (.int .i64 (c.left - 1)))
  have H := Lib.hid h
  have Hn := Lib.hid hn
  have Hp := Lib.hid hp
  have hsz : (w.setCell ⟨b, 84 + 3, none⟩ (.int .i64 (c.left - 1))).heap.size = w.heap.size := by simp [World.setCell]
  clear h hn hp ht hph hc hbt
  go_enter Tryz.func24, Tryz.ntmps24
  go_wp2_with fail
  refine (none_any b c _ H.out (by have := Hn.out; omega)).mono ?_
  rintro e wx ⟨rfl, rfl⟩
  go_wp2_with fail
  refine (prepare_any b t _ m n _ H2.out Hn.out hn9 Hp.out HT2.out).mono ?_
  rintro e w1 ⟨v, rfl, hown, hb⟩
  have HR := Lib.hid (show CoordAt w1 b { c with left := c.left - 1 } ∧ Touch (fun k => k = b) w w1 from ⟨H2.out.below hb, HTo.out.trans (Touch.of_below hb)⟩)
  rw [hsz] at hown
  have Hown := Lib.hid hown
  clear hown hb
  go_wp2_with fail
  go_ret
  exact ⟨_, rfl, Hown.out, HR.out⟩

set_option maxRecDepth 100000 in
set_option maxHeartbeats 2000000 in
theorem take_some (b a : Nat) (c : CSt) (e g f : Int) (fa ma : Option Addr) (fl fc ml mc : Nat) (w : World) (h : CoordAt w b c) (hn : 1 ≤ c.n) (ha : c.answer = .pointer (some ⟨a, 0, none⟩)) (hA : Blk w a (ansVals e g f (.slice fa fl fc) (.slice ma ml mc)) 34) :
    Calls Tryz.prog 17 #[.pointer (some ⟨b, 0, none⟩)] w fun x w' => x = .returned (.tuple #[.agg #[.int .i64 e, .int .i64 g, .int .i64 f, .slice fa fl fc, .slice ma ml mc], .bool true]) ∧ CoordAt w' b { c with answer := .pointer none } ∧ Touch (fun k => k = b) w w' := by
  have hb := h.1.lt
  have hal := hA.lt
  have h1 : w.cell? ⟨b, 91, none⟩ = some (.pointer (some ⟨a, 0, none⟩)) := by have := h.ft 7; rw [← ha]; exact this
  have f91 : w.frozen? ⟨b, 91, none⟩ = false := h.1.free 91
  have a0 : w.cell? ⟨a, 0, none⟩ = some (.int .i64 e) := hA.cell 0
  have a1 : w.cell? ⟨a, 1, none⟩ = some (.int .i64 g) := hA.cell 1
  have a2 : w.cell? ⟨a, 2, none⟩ = some (.int .i64 f) := hA.cell 2
  have a3 : w.cell? ⟨a, 3, none⟩ = some (.slice fa fl fc) := hA.cell 3
  have a4 : w.cell? ⟨a, 4, none⟩ = some (.slice ma ml mc) := hA.cell 4
  have H := Lib.hid h
  clear h ha
  go_enter Tryz.func17, Tryz.ntmps17
  go_wp2_with fail
  refine (none_any b c _ ⟨H.out.1.alloc _, H.out.2⟩ hn).mono ?_
  rintro e w' ⟨rfl, rfl⟩
  go_wp2_with fail
  have h4 := H.out.setFt 7 (.pointer none) { c with answer := .pointer none } rfl rfl rfl
  have t4 := touchOne_set (o := 84 + 7) (Touch.refl (fun k => k = b) w) (.pointer none)
  refine bodyPost_ret (v := .tuple #[.agg #[.int .i64 e, .int .i64 g, .int .i64 f, .slice fa fl fc, .slice ma ml mc], .bool true]) (by simp [results, Tryz.results17, go_sem]) rfl ⟨rfl, ?_, ?_⟩
  · exact (h4.alloc _).alloc _
  · exact (t4.alloc _).alloc _

def answerAt (w : World) (a : Nat) (e g f : Int) : Prop := Blk w a (ansVals e g f (.slice none 0 0) (.slice none 0 0)) 34
set_option maxRecDepth 100000 in
set_option maxHeartbeats 2000000 in
theorem tick_end (b t k : Nat) (c : CSt) (m : List Bool) (n : Nat) (w : World) (h : CoordAt w b c) (hn : c.n = (n : Int)) (hn1 : 1 ≤ n) (hn9 : n ≤ 9) (hp : c.promised = .pointer (some ⟨t, 0, none⟩)) (ht : TallyAt w t n m) (hph : c.phase = 1)
    (hc : c.call = .pointer (some ⟨k, 0, none⟩)) (hj : c.job = .pointer none) (hl : c.left ≤ 1) (hl2 : -1000 ≤ c.left) :
    Calls Tryz.prog 24 #[.pointer (some ⟨b, 0, none⟩)] w fun e w' => ∃ v a, e = .returned v ∧ w'.ownsRow w.heap.size 61 14 v (lackers m n).length (askVals c (lackers m n)) ∧ w.heap.size ≤ a ∧ answerAt w' a 17 0 0 ∧ CoordAt w' b ({ c with left := c.left - 1 }.ended (.pointer (some ⟨a, 0, none⟩))) ∧ Touch (fun k => k = b) w w' := by
  have h4 : w.cell? ⟨b, 4, none⟩ = some (.int .i64 1) := by rw [← hph]; exact h.hd 4 (by omega)
  have h86 : w.cell? ⟨b, 86, none⟩ = some (.pointer (some ⟨k, 0, none⟩)) := by have := h.ft 2; rw [← hc]; exact this
  have h87 : w.cell? ⟨b, 87, none⟩ = some (.int .i64 c.left) := h.ft 3
  have f87 : w.frozen? ⟨b, 87, none⟩ = false := h.1.free 87
  have hbt : t ≠ b := ht.1.ne h.1 (by decide)
  have hbl := h.1.lt
  have H2 := Lib.hid (h.setFt 3 (.int .i64 (c.left - 1)) { c with left := c.left - 1 } rfl rfl rfl)
  have HT2 := Lib.hid (show TallyAt (w.setCell ⟨b, 84 + 3, none⟩ (.int .i64 (c.left - 1))) t n m from ⟨ht.1.set_other (a := ⟨b, 84 + 3, none⟩) hbt _, ht.2⟩)
  have HTo := Lib.hid (touchOne_set (o := 84 + 3) (Touch.refl (fun k => k = b) w) (.int .i64 (c.left - 1)))
  have H := Lib.hid h
  have Hn := Lib.hid hn
  have Hp := Lib.hid hp
  have Hc := Lib.hid hc
  have Hj := Lib.hid hj
  have Hph := Lib.hid hph
  have Hbt := Lib.hid hbt
  have hsz : (w.setCell ⟨b, 84 + 3, none⟩ (.int .i64 (c.left - 1))).heap.size = w.heap.size := by simp [World.setCell]
  clear h hn hp ht hph hc hj hbt
  go_enter Tryz.func24, Tryz.ntmps24
  go_wp2_with fail
  refine (none_any b c _ H.out (by have := Hn.out; omega)).mono ?_
  rintro e wx ⟨rfl, rfl⟩
  go_wp2_with fail
  refine (end_call b k { c with left := c.left - 1 } 17 0 0 none none 0 0 0 0 _ H2.out Hc.out Hj.out).mono ?_
  rintro e w1 ⟨rfl, a, ha0, hA, hC, hT⟩
  rw [hsz] at ha0
  have Hsz1 := Lib.hid (show w.heap.size ≤ w1.heap.size by have := hT.size; rw [hsz] at this; exact this)
  have HT1 := Lib.hid (show TallyAt w1 t n m from ⟨HT2.out.1.touch hT Hbt.out, HT2.out.2⟩)
  have HT02 := Lib.hid (HTo.out.trans hT)
  have HA := Lib.hid hA
  have HC := Lib.hid hC
  have d4 : w1.cell? ⟨b, 4, none⟩ = some (.int .i64 1) := by rw [← Hph.out]; exact hC.hd 4 (by omega)
  clear hA hC hT
  go_wp2_with fail
  refine (prepare_any b t _ m n _ HC.out Hn.out hn9 Hp.out HT1.out).mono ?_
  rintro e w2 ⟨v, rfl, hown, hb⟩
  have HR := Lib.hid (show answerAt w2 a 17 0 0 ∧ CoordAt w2 b ({ c with left := c.left - 1 }.ended (.pointer (some ⟨a, 0, none⟩))) ∧ Touch (fun k => k = b) w w2 from ⟨HA.out.below hb, HC.out.below hb, HT02.out.trans (Touch.of_below hb)⟩)
  have Hown := Lib.hid (row_base hown Hsz1.out)
  clear hown hb
  go_wp2_with fail
  go_ret
  exact ⟨_, a, rfl, Hown.out, ha0, HR.out⟩
end Go.Proofs.YtmmnaieikfekfaaGreatDoor
