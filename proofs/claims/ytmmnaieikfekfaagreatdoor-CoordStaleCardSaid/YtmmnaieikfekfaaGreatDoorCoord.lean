/- A coordinator in memory, and the walks of New, Tick (while it prepares), Take, Known, Off, Leads, Ballot. No condition. -/
import Derived.Test.YtmmnaieikfekfaaGreatDoorBook
import Derived.Test.YtmmnaieikfekfaaGreatDoorTally
import Derived.Test.YtmmnaieikfekfaaGreatDoorKit2
namespace Go.Proofs.YtmmnaieikfekfaaGreatDoor
open Go.RowKit

/-- what stands in a coordinator's 92 cells -/
structure CSt where
  id : Int
  n : Int
  book : Value
  ballot : Int
  phase : Int
  floor : Int
  top : Int
  chosen : Value
  images : Value
  promised : Value
  promises : Value
  again : Value
  peers : List Value
  job : Value
  fetch : Value
  call : Value
  left : Int
  read : Int
  yes : Value
  pruned : Value
  answer : Value
def CSt.head (c : CSt) : List Value := [.int .i64 c.id, .int .i64 c.n, c.book, .int .i64 c.ballot, .int .i64 c.phase, .int .i64 c.floor, .int .i64 c.top, c.chosen, c.images, c.promised, c.promises, c.again]
def CSt.foot (c : CSt) : List Value := [c.job, c.fetch, c.call, .int .i64 c.left, .int .i64 c.read, c.yes, c.pruned, c.answer]
def CSt.cells (c : CSt) : List Value := c.head ++ (c.peers ++ c.foot)
def CoordAt (w : World) (b : Nat) (c : CSt) : Prop := Blk w b c.cells 91 ∧ c.peers.length = 72

theorem CoordAt.hd {w : World} {b : Nat} {c : CSt} (h : CoordAt w b c) (j : Nat) (hj : j < 12) : w.cell? ⟨b, j, none⟩ = c.head[j]? := by
  rw [h.1.cell, CSt.cells, List.getElem?_append_left (by simpa [CSt.head] using hj)]
theorem CoordAt.ft {w : World} {b : Nat} {c : CSt} (h : CoordAt w b c) (j : Nat) : w.cell? ⟨b, 84 + j, none⟩ = c.foot[j]? := by
  have h12 : c.head.length = 12 := rfl
  rw [h.1.cell, CSt.cells, List.getElem?_append_right (by omega), List.getElem?_append_right (by have := h.2; omega)]
  congr 1
  have := h.2
  omega
def noPeers : List Value := (List.replicate 9 [.bool false, .int .i64 0, .int .i64 0, .int .i64 0, .string ⟨#[]⟩, .bool false, .int .i64 0, .pointer none]).flatten
def newCoord (id n stamp : Int) (book tally : Value) : CSt := ⟨id, n, book, stamp * 4 + id, 1, 0, 0, .slice none 0 0, .slice none 0 0, tally, .slice none 0 0, .slice none 0 0, noPeers, .pointer none, .pointer none, .pointer none, 0, 0, .pointer none, .pointer none, .pointer none⟩
def NewOk (id n stamp : Int) : Prop := BalOk stamp id ∧ 1 ≤ n ∧ n ≤ 9

set_option maxRecDepth 100000 in
set_option maxHeartbeats 1000000 in
theorem newCoord_any (id n stamp : Int) (b m : Nat) (w : World) (h : NewOk id n stamp) (hb : BookAt w b m) :
    Calls Tryz.prog 12 #[.int .i64 id, .int .i64 n, .int .i64 stamp, .pointer (some ⟨b, 0, none⟩)] w fun e w' => ∃ c t, e = .returned (.tuple #[.pointer (some ⟨c, 0, none⟩), .int .i64 0]) ∧ w.heap.size ≤ c ∧ w.heap.size ≤ t ∧ CoordAt w' c (newCoord id n stamp (.pointer (some ⟨b, 0, none⟩)) (.pointer (some ⟨t, 0, none⟩))) ∧ TallyAt w' t n.toNat (List.replicate 9 false) ∧ Below w.heap.size w w' := by
  obtain ⟨h1, h2, h3⟩ := h
  have H1 := Lib.hid h1
  have Hb := Lib.hid hb
  clear h1 hb
  go_enter Tryz.func12, Tryz.ntmps12
  go_wp2_with fail
  refine (ballot_ok stamp id _ H1.out).mono ?_
  rintro e wx ⟨rfl, rfl⟩
  go_wp2_with fail
  refine (bookReady_any b m _ Hb.out).mono ?_
  rintro e wx ⟨rfl, rfl⟩
  go_wp2_with fail
  refine (newTally_any n _).mono ?_
  rintro e w1 ⟨t, rfl, ht, hT, hb1⟩
  go_wp2_with fail
  go_ret2
  have hcl : clip n = n.toNat := by unfold clip; rw [if_neg (by omega), if_neg (by omega)]
  have hcs : ((((((Tryz.zeroCells91.setIfInBounds 0 (.int .i64 id)).setIfInBounds 1 (.int .i64 n)).setIfInBounds 2 (.pointer (some ⟨b, 0, none⟩))).setIfInBounds 3 (.int .i64 (stamp * 4 + id))).setIfInBounds 4 (.int .i64 1)).setIfInBounds 9 (.pointer (some ⟨t, 0, none⟩))) = (newCoord id n stamp (.pointer (some ⟨b, 0, none⟩)) (.pointer (some ⟨t, 0, none⟩))).cells.toArray := by kernel_rfl
  rw [hcs]
  exact ⟨_, t, rfl, hb1.size, ht, ⟨Blk.new w1 _ _, rfl⟩, by rw [← hcl]; exact ⟨hT.1.alloc _, hT.2⟩, hb1.alloc hb1.size _⟩

set_option maxRecDepth 100000 in
set_option maxHeartbeats 1000000 in
theorem newCoord_no (id n stamp : Int) (b m : Nat) (w : World) (h : ¬ NewOk id n stamp) (hb : BookAt w b m) :
    Calls Tryz.prog 12 #[.int .i64 id, .int .i64 n, .int .i64 stamp, .pointer (some ⟨b, 0, none⟩)] w fun e w' => e = .returned (.tuple #[.pointer none, .int .i64 1]) ∧ w = w' := by
  have Hb := Lib.hid hb
  clear hb
  by_cases hbal : BalOk stamp id
  · have hn : n < 1 ∨ 9 < n := by have h2 : ¬ (1 ≤ n ∧ n ≤ 9) := fun hx => h ⟨hbal, hx⟩; omega
    have Hbal := Lib.hid hbal
    clear h hbal
    rcases hn with hn | hn
    all_goals
      go_enter Tryz.func12, Tryz.ntmps12
      go_wp2_with fail
      refine (ballot_ok stamp id _ Hbal.out).mono ?_
      rintro e wx ⟨rfl, rfl⟩
      go_wp2_with fail
      go_ret2
      exact ⟨rfl, rfl⟩
  · have Hbal := Lib.hid hbal
    clear h hbal
    go_enter Tryz.func12, Tryz.ntmps12
    go_wp2_with fail
    refine (ballot_no stamp id _ Hbal.out).mono ?_
    rintro e wx ⟨rfl, rfl⟩
    go_wp2_with fail
    go_ret2
    exact ⟨rfl, rfl⟩
theorem newCoord_nil (w : World) :
    Calls Tryz.prog 12 #[.int .i64 0, .int .i64 1, .int .i64 1, .pointer none] w fun e w' => e = .returned (.tuple #[.pointer none, .int .i64 1]) ∧ w = w' := by
  have Hbal := Lib.hid (show BalOk 1 0 by unfold BalOk; omega)
  go_enter Tryz.func12, Tryz.ntmps12
  go_wp2_with fail
  refine (ballot_ok 1 0 _ Hbal.out).mono ?_
  rintro e wx ⟨rfl, rfl⟩
  go_wp2_with fail
  refine (bookReady_nil _).mono ?_
  rintro e wx ⟨rfl, rfl⟩
  go_wp2_with fail
  go_ret2
  exact ⟨rfl, rfl⟩

theorem none_nil (w : World) :
    Calls Tryz.prog 32 #[.pointer none] w fun e w' => e = .returned (.bool true) ∧ w = w' := by
  go_enter Tryz.func32, Tryz.ntmps32
  go_wp2
  go_ret
  exact ⟨rfl, rfl⟩
theorem none_any (b : Nat) (c : CSt) (w : World) (h : CoordAt w b c) (hn : 1 ≤ c.n) :
    Calls Tryz.prog 32 #[.pointer (some ⟨b, 0, none⟩)] w fun e w' => e = .returned (.bool false) ∧ w = w' := by
  have h1 : w.cell? ⟨b, 1, none⟩ = some (.int .i64 c.n) := h.hd 1 (by omega)
  have hne : (c.n == 0) = false := by simp; omega
  clear h
  go_enter Tryz.func32, Tryz.ntmps32
  go_wp2
  go_ret
  exact ⟨rfl, rfl⟩
theorem off_any (b : Nat) (c : CSt) (w : World) (h : CoordAt w b c) (hn : 1 ≤ c.n) :
    Calls Tryz.prog 14 #[.pointer (some ⟨b, 0, none⟩)] w fun e w' => e = .returned (.bool (c.phase == 0)) ∧ w = w' := by
  have h1 : w.cell? ⟨b, 4, none⟩ = some (.int .i64 c.phase) := h.hd 4 (by omega)
  have H := Lib.hid h
  clear h
  go_enter Tryz.func14, Tryz.ntmps14
  go_wp2_with (go_at_call 32; refine (none_any b c _ H.out hn).mono ?_; rintro e w' ⟨rfl, rfl⟩)
  go_ret
  exact ⟨rfl, rfl⟩
theorem off_nil (w : World) :
    Calls Tryz.prog 14 #[.pointer none] w fun e w' => e = .returned (.bool true) ∧ w = w' := by
  go_enter Tryz.func14, Tryz.ntmps14
  go_wp2_with (go_at_call 32; refine (none_nil _).mono ?_; rintro e w' ⟨rfl, rfl⟩)
  go_ret
  exact ⟨rfl, rfl⟩
theorem leads_any (b : Nat) (c : CSt) (w : World) (h : CoordAt w b c) (hn : 1 ≤ c.n) :
    Calls Tryz.prog 19 #[.pointer (some ⟨b, 0, none⟩)] w fun e w' => e = .returned (.bool (c.phase == 2)) ∧ w = w' := by
  have h1 : w.cell? ⟨b, 4, none⟩ = some (.int .i64 c.phase) := h.hd 4 (by omega)
  have H := Lib.hid h
  clear h
  go_enter Tryz.func19, Tryz.ntmps19
  go_wp2_with (go_at_call 32; refine (none_any b c _ H.out hn).mono ?_; rintro e w' ⟨rfl, rfl⟩)
  go_ret
  exact ⟨rfl, rfl⟩
theorem leads_nil (w : World) :
    Calls Tryz.prog 19 #[.pointer none] w fun e w' => e = .returned (.bool false) ∧ w = w' := by
  go_enter Tryz.func19, Tryz.ntmps19
  go_wp2_with (go_at_call 32; refine (none_nil _).mono ?_; rintro e w' ⟨rfl, rfl⟩)
  go_ret
  exact ⟨rfl, rfl⟩
theorem ballotOf_any (b : Nat) (c : CSt) (w : World) (h : CoordAt w b c) (hn : 1 ≤ c.n) :
    Calls Tryz.prog 18 #[.pointer (some ⟨b, 0, none⟩)] w fun e w' => e = .returned (.int .i64 c.ballot) ∧ w = w' := by
  have h1 : w.cell? ⟨b, 3, none⟩ = some (.int .i64 c.ballot) := h.hd 3 (by omega)
  have H := Lib.hid h
  clear h
  go_enter Tryz.func18, Tryz.ntmps18
  go_wp2_with (go_at_call 32; refine (none_any b c _ H.out hn).mono ?_; rintro e w' ⟨rfl, rfl⟩)
  go_ret
  exact ⟨rfl, rfl⟩
theorem ballotOf_nil (w : World) :
    Calls Tryz.prog 18 #[.pointer none] w fun e w' => e = .returned (.int .i64 0) ∧ w = w' := by
  go_enter Tryz.func18, Tryz.ntmps18
  go_wp2_with (go_at_call 32; refine (none_nil _).mono ?_; rintro e w' ⟨rfl, rfl⟩)
  go_ret
  exact ⟨rfl, rfl⟩
theorem knownOf_any (b : Nat) (c : CSt) (w : World) (h : CoordAt w b c) (hn : 1 ≤ c.n) :
    Calls Tryz.prog 16 #[.pointer (some ⟨b, 0, none⟩)] w fun e w' => e = .returned (.tuple #[.int .i64 c.floor, .int .i64 c.top]) ∧ ∃ n, w' = w.drewN n := by
  have h1 : w.cell? ⟨b, 5, none⟩ = some (.int .i64 c.floor) := h.hd 5 (by omega)
  have h2 : w.cell? ⟨b, 6, none⟩ = some (.int .i64 c.top) := h.hd 6 (by omega)
  have H := Lib.hid h
  clear h
  go_enter Tryz.func16, Tryz.ntmps16
  go_wp2_with (go_at_call 32; refine (none_any b c _ H.out hn).mono ?_; rintro e w' ⟨rfl, rfl⟩)
  go_quiet (fail)
  go_wp2
  go_ret2
  exact ⟨rfl, _, rfl⟩
theorem knownOf_nil (w : World) :
    Calls Tryz.prog 16 #[.pointer none] w fun e w' => e = .returned (.tuple #[.int .i64 0, .int .i64 0]) ∧ w = w' := by
  go_enter Tryz.func16, Tryz.ntmps16
  go_wp2_with (go_at_call 32; refine (none_nil _).mono ?_; rintro e w' ⟨rfl, rfl⟩)
  go_ret2
  exact ⟨rfl, rfl⟩
def noAnswer : Value := .tuple #[.agg #[.int .i64 0, .int .i64 0, .int .i64 0, .slice none 0 0, .slice none 0 0], .bool false]
theorem take_nil (w : World) :
    Calls Tryz.prog 17 #[.pointer none] w fun e w' => e = .returned noAnswer ∧ Below w.heap.size w w' := by
  go_enter Tryz.func17, Tryz.ntmps17
  go_wp2_with (go_at_call 32; refine (none_nil _).mono ?_; rintro e w' ⟨rfl, rfl⟩)
  refine bodyPost_ret (v := noAnswer) (by simp [noAnswer, results, Tryz.results17, go_sem]) rfl ⟨rfl, ?_⟩
  exact (Below.refl _ _).alloc (Nat.le_refl _) _
theorem take_none (b : Nat) (c : CSt) (w : World) (h : CoordAt w b c) (hn : 1 ≤ c.n) (ha : c.answer = .pointer none) :
    Calls Tryz.prog 17 #[.pointer (some ⟨b, 0, none⟩)] w fun e w' => e = .returned noAnswer ∧ Below w.heap.size w w' := by
  have hb := h.1.lt
  have h1 : w.cell? ⟨b, 91, none⟩ = some (.pointer none) := by have := h.ft 7; rw [← ha]; exact this
  have H := Lib.hid h
  clear h ha
  go_enter Tryz.func17, Tryz.ntmps17
  go_wp2_with fail
  refine (none_any b c _ ⟨H.out.1.alloc _, H.out.2⟩ hn).mono ?_
  rintro e w' ⟨rfl, rfl⟩
  go_wp2_with fail
  refine bodyPost_ret (v := noAnswer) (by simp [noAnswer, results, Tryz.results17, go_sem]) rfl ⟨rfl, ?_⟩
  exact (Below.refl _ _).alloc (Nat.le_refl _) _
end Go.Proofs.YtmmnaieikfekfaaGreatDoor
