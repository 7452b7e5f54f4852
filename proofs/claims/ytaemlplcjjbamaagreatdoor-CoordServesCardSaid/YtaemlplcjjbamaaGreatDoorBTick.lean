/- An ideal book of marks in memory: marks.Ideal and Ready. No condition. The walks of plan.Majority and plan.Ballot. No condition. The walks of plan.New and a tally's Add, Has, Count, Won. No condition. A coordinator in memory, and the walks of New, Tick (while it prepares), Take, Known, Off, Leads, Ballot. No condition. The walks of a coordinator's to, prepare, and of Tick while it prepares and no call is there; the chapter's example. No condition. -/
import Derived.Test.YtaemlplcjjbamaaGreatDoorBHeld
import Derived.Test.YtaemlplcjjbamaaGreatDoorRows
import Derived.Lib.MinMax
import Derived.RegionTactic
import Derived.ChangeAlike
namespace Go.Proofs.YtaemlplcjjbamaaGreatDoor
open Go.RowKit
/-- the cells of a book that is not real: the mixer's numbers are noughts -/
noncomputable def bookVals (m : Value) : List Value := ((Tryz.zeroCells91.setIfInBounds 74 (.bool true)).setIfInBounds 73 m).toList
def BookAt (w : World) (b : Nat) (m : Nat) : Prop := Blk w b (bookVals (.map (some m))) 91
theorem bookVals_at (m : Value) : (bookVals m)[72]? = some (.bool false) ∧ (bookVals m)[73]? = some m ∧ (bookVals m)[74]? = some (.bool true) := by
  refine ⟨?_, ?_, ?_⟩ <;> kernel_rfl
theorem BookAt.real {w : World} {b m : Nat} (h : BookAt w b m) : w.cell? ⟨b, 72, none⟩ = some (.bool false) := by
  rw [Blk.cell h]; exact (bookVals_at _).1
theorem BookAt.seen {w : World} {b m : Nat} (h : BookAt w b m) : w.cell? ⟨b, 73, none⟩ = some (.map (some m)) := by
  rw [Blk.cell h]; exact (bookVals_at _).2.1
theorem BookAt.ideal {w : World} {b m : Nat} (h : BookAt w b m) : w.cell? ⟨b, 74, none⟩ = some (.bool true) := by
  rw [Blk.cell h]; exact (bookVals_at _).2.2
set_option maxRecDepth 100000 in
set_option maxHeartbeats 1000000 in
theorem ideal_any (w : World) :
    Calls Tryz.prog 15 #[] w fun e w' => ∃ b m, e = .returned (.pointer (some ⟨b, 0, none⟩)) ∧ w.heap.size ≤ b ∧ w.heap.size ≤ m ∧ BookAt w' b m ∧ w'.heap[m]? = some (.map #[] 0) ∧ Below w.heap.size w w' := by
  have hmm := @run_makeMap Tryz.prog
  go_enter Tryz.func15, Tryz.ntmps15
  go_wp2
  go_ret
  have hb := Blk.new (w.alloc (Obj.map #[] 0)) (bookVals (.map (some w.heap.size))) 91
  rw [World.size_alloc] at hb
  refine ⟨w.heap.size + 1, w.heap.size, rfl, by omega, by omega, hb, ?_, ((Below.refl _ _).alloc (Nat.le_refl _) _).alloc (by simp) _⟩
  rw [Below.heap_alloc _ _ _ (by simp)]
  exact heap_alloc_new w _
theorem noBook_any (b m : Nat) (w : World) (h : BookAt w b m) :
    Calls Tryz.prog 25 #[.pointer (some ⟨b, 0, none⟩)] w fun e w' => e = .returned (.bool false) ∧ w = w' := by
  have h1 := h.real
  have h2 := h.ideal
  clear h
  go_enter Tryz.func25, Tryz.ntmps25
  go_wp2
  go_ret
  exact ⟨rfl, rfl⟩
theorem bookReady_any (b m : Nat) (w : World) (h : BookAt w b m) :
    Calls Tryz.prog 34 #[.pointer (some ⟨b, 0, none⟩)] w fun e w' => e = .returned (.bool true) ∧ w = w' := by
  have H := Lib.hid h
  clear h
  go_enter Tryz.func34, Tryz.ntmps34
  go_wp2_with (go_at_call 25; refine (noBook_any b m _ H.out).mono ?_; rintro e w' ⟨rfl, rfl⟩)
  go_ret
  exact ⟨rfl, rfl⟩
end Go.Proofs.YtaemlplcjjbamaaGreatDoor
namespace Go.Proofs.YtaemlplcjjbamaaGreatDoor
open Go.RowKit
def major (n : Nat) : Nat := n / 2 + 1
theorem majority_any (n : Nat) (w : World) (h : n ≤ 4611686018427387904) :
    Calls Tryz.prog 94 #[.int .i64 (n : Int)] w fun e w' => e = .returned (.int .i64 (major n : Int)) ∧ w = w' := by
  go_enter Tryz.func94, Tryz.ntmps94
  go_wp2_with fail
  go_ret
  refine ⟨ret_int ?_, rfl⟩
  unfold major
  omega
def BalOk (a i : Int) : Prop := 0 ≤ i ∧ i < 4 ∧ 1 ≤ a ∧ a ≤ 1099511627776
theorem ballot_ok (a i : Int) (w : World) (h : BalOk a i) :
    Calls Tryz.prog 33 #[.int .i64 a, .int .i64 i] w fun e w' => e = .returned (.tuple #[.int .i64 (a * 4 + i), .int .i64 0]) ∧ w = w' := by
  obtain ⟨h1, h2, h3, h4⟩ := h
  have hd : (decide (i < 0) || decide (4 ≤ i) || decide (a < 1) || decide (1099511627776 < a)) = false := by simp; omega
  go_enter Tryz.func33, Tryz.ntmps33
  go_wp2_with fail
  go_ret2
  exact ⟨rfl, rfl⟩
theorem ballot_no (a i : Int) (w : World) (h : ¬ BalOk a i) :
    Calls Tryz.prog 33 #[.int .i64 a, .int .i64 i] w fun e w' => e = .returned (.tuple #[.int .i64 0, .int .i64 1]) ∧ w = w' := by
  unfold BalOk at h
  have hd : (decide (i < 0) || decide (4 ≤ i) || decide (a < 1) || decide (1099511627776 < a)) = true := by simp; omega
  clear h
  go_enter Tryz.func33, Tryz.ntmps33
  go_wp2_with fail
  all_goals (go_ret2; exact ⟨rfl, rfl⟩)
end Go.Proofs.YtaemlplcjjbamaaGreatDoor
namespace Go.Proofs.YtaemlplcjjbamaaGreatDoor
open Go.RowKit
def TallyAt (w : World) (b : Nat) (o : Nat) (m : List Bool) : Prop := Blk w b (Value.int .i64 (o : Int) :: m.map Value.bool) 115 ∧ m.length = 9 ∧ o ≤ 9
def clip (n : Int) : Nat := if n < 0 then 0 else if 9 < n then 9 else n.toNat
theorem clip_le (n : Int) : clip n ≤ 9 := by unfold clip; split; omega; split; omega; omega
theorem TallyAt.of {w : World} {b o : Nat} {m : List Bool} (h : TallyAt w b o m) : w.cell? ⟨b, 0, none⟩ = some (.int .i64 (o : Int)) := by
  rw [h.1.cell]; rfl
theorem TallyAt.has {w : World} {b o : Nat} {m : List Bool} (h : TallyAt w b o m) (i : Nat) (hi : i < 9) : w.cell? ⟨b, 1 + i, none⟩ = some (.bool (m.getD i false)) := by
  have hm := h.2.1
  rw [h.1.cell, Nat.add_comm, List.getElem?_cons_succ, List.getElem?_map, List.getD, List.getElem?_eq_getElem (by omega)]
  rfl
set_option maxHeartbeats 1000000 in
theorem newTally_any (n : Int) (w : World) :
    Calls Tryz.prog 35 #[.int .i64 n] w fun e w' => ∃ b, e = .returned (.pointer (some ⟨b, 0, none⟩)) ∧ w.heap.size ≤ b ∧ TallyAt w' b (clip n) (List.replicate 9 false) ∧ Below w.heap.size w w' := by
  go_enter Tryz.func35, Tryz.ntmps35
  have e1 : min (max n 0) 9 = (clip n : Int) := by unfold clip; split; omega; split; omega; omega
  go_wp2
  go_ret
  exact ⟨_, rfl, Nat.le_refl _, ⟨Blk.new w (.int .i64 (clip n : Int) :: (List.replicate 9 false).map Value.bool) 115, rfl, clip_le n⟩, (Below.refl _ _).alloc (Nat.le_refl _) _⟩
theorem has_any (b o : Nat) (m : List Bool) (i : Int) (w : World) (h : TallyAt w b o m) :
    Calls Tryz.prog 51 #[.pointer (some ⟨b, 0, none⟩), .int .i64 i] w fun e w' => e = .returned (.bool (decide (0 ≤ i) && decide (i < o) && m.getD i.toNat false)) ∧ w = w' := by
  have hof := h.of
  have ho := h.2.2
  by_cases hi : 0 ≤ i ∧ i < o
  · obtain ⟨k, rfl⟩ := Int.eq_ofNat_of_zero_le hi.1
    have hk : k < o := by omega
    have hc := h.has k (by omega)
    have e1 : (decide ((0 : Int) ≤ (k : Int)) && decide ((k : Int) < (o : Int)) && m.getD (k : Int).toNat false) = m.getD k false := by simp; omega
    rw [e1]
    generalize m.getD k false = r at hc ⊢
    clear h hi e1
    go_enter Tryz.func51, Tryz.ntmps51
    go_wp2
    go_ret
    exact ⟨rfl, rfl⟩
  · have e1 : (decide (0 ≤ i) && decide (i < (o : Int)) && m.getD i.toNat false) = false := by
      have : (decide (0 ≤ i) && decide (i < (o : Int))) = false := by simp; omega
      rw [this]; rfl
    rw [e1]
    clear h e1
    by_cases h0 : 0 ≤ i
    · have h1 : ¬ i < o := fun hx => hi ⟨h0, hx⟩
      clear hi
      go_enter Tryz.func51, Tryz.ntmps51
      go_wp2
      go_ret
      exact ⟨rfl, rfl⟩
    · clear hi
      go_enter Tryz.func51, Tryz.ntmps51
      go_wp2
      go_ret
      exact ⟨rfl, rfl⟩
def isOne (i : Int) (o : Nat) : Bool := decide (0 ≤ i) && decide (i < (o : Int))
def addTo (m : List Bool) (i : Int) (o : Nat) : List Bool := if isOne i o = true then m.set i.toNat true else m
theorem TallyAt.set {w : World} {b o : Nat} {m : List Bool} (h : TallyAt w b o m) (k : Nat) : TallyAt (w.setCell ⟨b, 1 + k, none⟩ (.bool true)) b o (m.set k true) := by
  refine ⟨?_, by rw [List.length_set]; exact h.2.1, h.2.2⟩
  have hb := h.1.set (1 + k) (.bool true)
  rw [Nat.add_comm 1 k, List.set_cons_succ, ← List.map_set] at hb
  rw [Nat.add_comm 1 k]
  exact hb
theorem add_any (b o : Nat) (m : List Bool) (i : Int) (w : World) (h : TallyAt w b o m) :
    Calls Tryz.prog 83 #[.pointer (some ⟨b, 0, none⟩), .int .i64 i] w fun e w' => e = .returned (.bool (isOne i o)) ∧ TallyAt w' b o (addTo m i o) ∧ Touch (fun k => k = b) w w' := by
  have hof := h.of
  have ho := h.2.2
  have H := Lib.hid h
  by_cases hi : isOne i o = true
  · have e2 : addTo m i o = m.set i.toNat true := by unfold addTo; rw [if_pos hi]
    rw [e2, hi]
    have hi2 : 0 ≤ i ∧ i < o := by unfold isOne at hi; simpa using hi
    obtain ⟨k, rfl⟩ := Int.eq_ofNat_of_zero_le hi2.1
    have hk : k < o := by omega
    have hc := h.has k (by omega)
    have hf := h.1.free (1 + k)
    rw [Int.toNat_natCast]
    clear h hi hi2 e2
    go_enter Tryz.func83, Tryz.ntmps83
    go_wp2
    go_ret
    exact ⟨rfl, H.out.set k, (Touch.refl (fun k => k = b) w).set (p := ⟨b, 1 + k, none⟩) (Or.inl rfl) _⟩
  · have e2 : addTo m i o = m := by unfold addTo; rw [if_neg hi]
    have hi' : isOne i o = false := by simpa using hi
    rw [e2, hi']
    have hd : ¬ (0 ≤ i ∧ i < o) := by unfold isOne at hi; simpa using hi
    clear h e2 hi hi'
    by_cases h0 : 0 ≤ i
    · have h1 : ¬ i < o := fun hx => hd ⟨h0, hx⟩
      clear hd
      go_enter Tryz.func83, Tryz.ntmps83
      go_wp2
      go_ret
      exact ⟨rfl, H.out, Touch.refl _ _⟩
    · clear hd
      go_enter Tryz.func83, Tryz.ntmps83
      go_wp2
      go_ret
      exact ⟨rfl, H.out, Touch.refl _ _⟩
def cntTo (m : List Bool) (o k : Nat) : Nat := (List.range k).countP fun i => decide (i < o) && m.getD i false
def cnt (m : List Bool) (o : Nat) : Nat := cntTo m o 9
theorem cntTo_snoc (m : List Bool) (o k : Nat) : cntTo m o (k + 1) = cntTo m o k + if (decide (0 ≤ (k : Int)) && decide ((k : Int) < (o : Int)) && m.getD (k : Int).toNat false) = true then 1 else 0 := by
  unfold cntTo
  rw [List.range_succ, List.countP_append, List.countP_cons, List.countP_nil, Nat.zero_add]
  congr 2
  rw [Bool.eq_iff_iff]
  simp
theorem count_any (b o : Nat) (m : List Bool) (w : World) (h : TallyAt w b o m) :
    Calls Tryz.prog 93 #[.pointer (some ⟨b, 0, none⟩)] w fun e w' => e = .returned (.int .i64 (cnt m o : Int)) ∧ w = w' := by
  have H := Lib.hid h
  clear h
  go_enter Tryz.func93, Tryz.ntmps93
  go_wp2
  go_loop [3, 5] (fun n i => ∃ k x : Nat, k ≤ 9 ∧ i = .int .i64 k ∧ n = .int .i64 x ∧ x ≤ k ∧ Hid (x = cntTo m o k)) (fun _ i => 9 - (intOf i).toNat)
  case atStart => exact ⟨0, 0, Nat.zero_le _, rfl, rfl, Nat.zero_le _, Lib.hid rfl⟩
  case round =>
    obtain ⟨k, x, hk, rfl, rfl, hxk, Hx⟩ := hrel
    by_cases hlt : k < 9
    · have Hs := Lib.hid (cntTo_snoc m o k)
      go_wp2_with fail
      refine (has_any b o m k _ H.out).mono ?_
      rintro e wx ⟨rfl, rfl⟩
      generalize (decide (0 ≤ (k : Int)) && decide ((k : Int) < (o : Int)) && m.getD (k : Int).toNat false) = t at Hs ⊢
      cases t
      · go_wp2_with fail
        go_round
        case rel => exact ⟨k + 1, x, by omega, by go_num, rfl, by omega, Lib.hid (by rw [Hs.out, ← Hx.out]; simp)⟩
        case measure => simp [intOf]; omega
      · go_wp2_with fail
        go_round
        case rel => exact ⟨k + 1, x + 1, by omega, by go_num, by go_num, by omega, Lib.hid (by rw [Hs.out, ← Hx.out]; simp)⟩
        case measure => simp [intOf]; omega
    · have hk' : k = 9 := by omega
      subst hk'
      go_wp2
      go_ret
      exact ⟨ret_int (by rw [Hx.out]; rfl), rfl⟩
def wonT (m : List Bool) (o : Nat) : Bool := decide (0 < o) && decide (o < 2 * cnt m o)
theorem TallyAt.drewN {w : World} {b o : Nat} {m : List Bool} (h : TallyAt w b o m) (n : Nat) : TallyAt (w.drewN n) b o m := h
theorem won_any (b o : Nat) (m : List Bool) (w : World) (h : TallyAt w b o m) :
    Calls Tryz.prog 61 #[.pointer (some ⟨b, 0, none⟩)] w fun e w' => e = .returned (.bool (wonT m o)) ∧ ∃ n, w' = w.drewN n := by
  have hof := h.of
  have ho := h.2.2
  have H := Lib.hid h
  clear h
  by_cases h0 : o = 0
  · subst h0
    have e1 : wonT m 0 = false := rfl
    rw [e1]
    go_enter Tryz.func61, Tryz.ntmps61
    go_wp2
    go_quiet (fail)
    go_wp2
    go_ret
    exact ⟨rfl, _, rfl⟩
  · have hd : 0 < o := by omega
    have hd2 : decide (0 < o) = true := by simp; omega
    have e1 : wonT m o = decide (major o ≤ cnt m o) := by
      unfold wonT major
      rw [Bool.eq_iff_iff]
      simp
      omega
    rw [e1]
    clear e1
    go_enter Tryz.func61, Tryz.ntmps61
    go_wp2
    go_quiet (first | (go_at_call 93; first | exact quiet_left (count_any b o m _ (H.out.drewN _)) | exact quiet_add_left (count_any b o m _ (H.out.drewN _))) | (go_at_call 94; first | exact quiet_left (majority_any o _ (by omega)) | exact quiet_add_left (majority_any o _ (by omega))))
    go_wp2
    go_ret
    exact ⟨rfl, _, rfl⟩
end Go.Proofs.YtaemlplcjjbamaaGreatDoor
namespace Go.Proofs.YtaemlplcjjbamaaGreatDoor
open Go.RowKit
/-- what stands in a coordinator's 92 cells -/
structure CSt where
  id : Int
  n : Int
  book : Value
  ballot : Int
  phase : Int
  floor : Int
  top : Int
  chosen : Value
  images : Value
  promised : Value
  promises : Value
  again : Value
  peers : List Value
  job : Value
  fetch : Value
  call : Value
  left : Int
  read : Int
  yes : Value
  pruned : Value
  answer : Value
def CSt.head (c : CSt) : List Value := [.int .i64 c.id, .int .i64 c.n, c.book, .int .i64 c.ballot, .int .i64 c.phase, .int .i64 c.floor, .int .i64 c.top, c.chosen, c.images, c.promised, c.promises, c.again]
def CSt.foot (c : CSt) : List Value := [c.job, c.fetch, c.call, .int .i64 c.left, .int .i64 c.read, c.yes, c.pruned, c.answer]
def CSt.cells (c : CSt) : List Value := c.head ++ (c.peers ++ c.foot)
def CoordAt (w : World) (b : Nat) (c : CSt) : Prop := Blk w b c.cells 78 ∧ c.peers.length = 72
theorem CoordAt.hd {w : World} {b : Nat} {c : CSt} (h : CoordAt w b c) (j : Nat) (hj : j < 12) : w.cell? ⟨b, j, none⟩ = c.head[j]? := by
  rw [h.1.cell, CSt.cells, List.getElem?_append_left (by simpa [CSt.head] using hj)]
theorem CoordAt.ft {w : World} {b : Nat} {c : CSt} (h : CoordAt w b c) (j : Nat) : w.cell? ⟨b, 84 + j, none⟩ = c.foot[j]? := by
  have h12 : c.head.length = 12 := rfl
  rw [h.1.cell, CSt.cells, List.getElem?_append_right (by omega), List.getElem?_append_right (by have := h.2; omega)]
  congr 1
  have := h.2
  omega
def noPeers : List Value := (List.replicate 9 [.bool false, .int .i64 0, .int .i64 0, .int .i64 0, .string ⟨#[]⟩, .bool false, .int .i64 0, .pointer none]).flatten
def newCoord (id n stamp : Int) (book tally : Value) : CSt := ⟨id, n, book, stamp * 4 + id, 1, 0, 0, .slice none 0 0, .slice none 0 0, tally, .slice none 0 0, .slice none 0 0, noPeers, .pointer none, .pointer none, .pointer none, 0, 0, .pointer none, .pointer none, .pointer none⟩
def NewOk (id n stamp : Int) : Prop := BalOk stamp id ∧ 1 ≤ n ∧ n ≤ 9
set_option maxRecDepth 100000 in
set_option maxHeartbeats 1000000 in
theorem newCoord_any (id n stamp : Int) (b m : Nat) (w : World) (h : NewOk id n stamp) (hb : BookAt w b m) :
    Calls Tryz.prog 16 #[.int .i64 id, .int .i64 n, .int .i64 stamp, .pointer (some ⟨b, 0, none⟩)] w fun e w' => ∃ c t, e = .returned (.tuple #[.pointer (some ⟨c, 0, none⟩), .int .i64 0]) ∧ w.heap.size ≤ c ∧ w.heap.size ≤ t ∧ CoordAt w' c (newCoord id n stamp (.pointer (some ⟨b, 0, none⟩)) (.pointer (some ⟨t, 0, none⟩))) ∧ TallyAt w' t n.toNat (List.replicate 9 false) ∧ Below w.heap.size w w' := by
  obtain ⟨h1, h2, h3⟩ := h
  have H1 := Lib.hid h1
  have Hb := Lib.hid hb
  clear h1 hb
  go_enter Tryz.func16, Tryz.ntmps16
  go_wp2_with fail
  refine (ballot_ok stamp id _ H1.out).mono ?_
  rintro e wx ⟨rfl, rfl⟩
  go_wp2_with fail
  refine (bookReady_any b m _ Hb.out).mono ?_
  rintro e wx ⟨rfl, rfl⟩
  go_wp2_with fail
  refine (newTally_any n _).mono ?_
  rintro e w1 ⟨t, rfl, ht, hT, hb1⟩
  go_wp2_with fail
  go_ret2
  have hcl : clip n = n.toNat := by unfold clip; rw [if_neg (by omega), if_neg (by omega)]
  have hcs : ((((((Tryz.zeroCells78.setIfInBounds 0 (.int .i64 id)).setIfInBounds 1 (.int .i64 n)).setIfInBounds 2 (.pointer (some ⟨b, 0, none⟩))).setIfInBounds 3 (.int .i64 (stamp * 4 + id))).setIfInBounds 4 (.int .i64 1)).setIfInBounds 9 (.pointer (some ⟨t, 0, none⟩))) = (newCoord id n stamp (.pointer (some ⟨b, 0, none⟩)) (.pointer (some ⟨t, 0, none⟩))).cells.toArray := by kernel_rfl
  rw [hcs]
  exact ⟨_, t, rfl, hb1.size, ht, ⟨Blk.new w1 _ _, rfl⟩, by rw [← hcl]; exact ⟨hT.1.alloc _, hT.2⟩, hb1.alloc hb1.size _⟩
set_option maxRecDepth 100000 in
set_option maxHeartbeats 1000000 in
theorem newCoord_no (id n stamp : Int) (b m : Nat) (w : World) (h : ¬ NewOk id n stamp) (hb : BookAt w b m) :
    Calls Tryz.prog 16 #[.int .i64 id, .int .i64 n, .int .i64 stamp, .pointer (some ⟨b, 0, none⟩)] w fun e w' => e = .returned (.tuple #[.pointer none, .int .i64 1]) ∧ w = w' := by
  have Hb := Lib.hid hb
  clear hb
  by_cases hbal : BalOk stamp id
  · have hn : n < 1 ∨ 9 < n := by have h2 : ¬ (1 ≤ n ∧ n ≤ 9) := fun hx => h ⟨hbal, hx⟩; omega
    have Hbal := Lib.hid hbal
    clear h hbal
    rcases hn with hn | hn
    all_goals
      go_enter Tryz.func16, Tryz.ntmps16
      go_wp2_with fail
      refine (ballot_ok stamp id _ Hbal.out).mono ?_
      rintro e wx ⟨rfl, rfl⟩
      go_wp2_with fail
      go_ret2
      exact ⟨rfl, rfl⟩
  · have Hbal := Lib.hid hbal
    clear h hbal
    go_enter Tryz.func16, Tryz.ntmps16
    go_wp2_with fail
    refine (ballot_no stamp id _ Hbal.out).mono ?_
    rintro e wx ⟨rfl, rfl⟩
    go_wp2_with fail
    go_ret2
    exact ⟨rfl, rfl⟩
theorem none_any (b : Nat) (c : CSt) (w : World) (h : CoordAt w b c) (hn : 1 ≤ c.n) :
    Calls Tryz.prog 18 #[.pointer (some ⟨b, 0, none⟩)] w fun e w' => e = .returned (.bool false) ∧ w = w' := by
  have h1 : w.cell? ⟨b, 1, none⟩ = some (.int .i64 c.n) := h.hd 1 (by omega)
  have hne : (c.n == 0) = false := by simp; omega
  clear h
  go_enter Tryz.func18, Tryz.ntmps18
  go_wp2
  go_ret
  exact ⟨rfl, rfl⟩
theorem ballotOf_any (b : Nat) (c : CSt) (w : World) (h : CoordAt w b c) (hn : 1 ≤ c.n) :
    Calls Tryz.prog 30 #[.pointer (some ⟨b, 0, none⟩)] w fun e w' => e = .returned (.int .i64 c.ballot) ∧ w = w' := by
  have h1 : w.cell? ⟨b, 3, none⟩ = some (.int .i64 c.ballot) := h.hd 3 (by omega)
  have H := Lib.hid h
  clear h
  go_enter Tryz.func30, Tryz.ntmps30
  go_wp2_with (go_at_call 18; refine (none_any b c _ H.out hn).mono ?_; rintro e w' ⟨rfl, rfl⟩)
  go_ret
  exact ⟨rfl, rfl⟩
def noAnswer : Value := .tuple #[.agg #[.int .i64 0, .int .i64 0, .int .i64 0, .slice none 0 0, .slice none 0 0], .bool false]
theorem take_none (b : Nat) (c : CSt) (w : World) (h : CoordAt w b c) (hn : 1 ≤ c.n) (ha : c.answer = .pointer none) :
    Calls Tryz.prog 13 #[.pointer (some ⟨b, 0, none⟩)] w fun e w' => e = .returned noAnswer ∧ Below w.heap.size w w' := by
  have hb := h.1.lt
  have h1 : w.cell? ⟨b, 91, none⟩ = some (.pointer none) := by have := h.ft 7; rw [← ha]; exact this
  have H := Lib.hid h
  clear h ha
  go_enter Tryz.func13, Tryz.ntmps13
  go_wp2_with fail
  refine (none_any b c _ ⟨H.out.1.alloc _, H.out.2⟩ hn).mono ?_
  rintro e w' ⟨rfl, rfl⟩
  go_wp2_with fail
  refine bodyPost_ret (v := noAnswer) (by simp [noAnswer, results, Tryz.results13, go_sem]) rfl ⟨rfl, ?_⟩
  exact (Below.refl _ _).alloc (Nat.le_refl _) _
end Go.Proofs.YtaemlplcjjbamaaGreatDoor
namespace Go.Proofs.YtaemlplcjjbamaaGreatDoor
open Go.RowKit
def msgArr (kind id v ballot : Int) : Array Value := #[.int .i64 kind, .int .i64 id, .int .i64 v, .int .i64 ballot, .int .i64 0, .int .i64 0, .int .i64 0, .int .i64 0, .int .i64 0, .string ⟨#[]⟩, .int .i64 0, .int .i64 0, .string ⟨#[]⟩, .slice none 0 0]
theorem info_msg : (Tryz.prog.info? 30).map (fun i => (i.zero, i.size, i.bytes)) = some (some (.agg (msgArr 0 0 0 0)), 14, 144) := by kernel_rfl
set_option maxRecDepth 100000 in
set_option maxHeartbeats 2000000 in
theorem to_any (b : Nat) (c : CSt) (v kind : Int) (w : World) (h : CoordAt w b c) :
    Calls Tryz.prog 52 #[.pointer (some ⟨b, 0, none⟩), .int .i64 v, .int .i64 kind] w fun e w' => e = .returned (.agg (msgArr kind c.id v c.ballot)) ∧ Below w.heap.size w w' := by
  have hb := h.1.lt
  have h0 : w.cell? ⟨b, 0, none⟩ = some (.int .i64 c.id) := h.hd 0 (by omega)
  have h3 : w.cell? ⟨b, 3, none⟩ = some (.int .i64 c.ballot) := h.hd 3 (by omega)
  clear h
  go_enter Tryz.func52, Tryz.ntmps52
  go_wp2
  go_region
  all_goals
    go_wp2_with fail
    refine bodyPost_ret (v := .agg (msgArr kind c.id v c.ballot)) (by simp [msgArr, results, Tryz.results52, go_sem]) rfl ⟨rfl, ?_⟩
    exact ((Below.refl _ _).alloc (Nat.le_refl _) _).drew
theorem CoordAt.below {w w' : World} {b : Nat} {c : CSt} (h : CoordAt w b c) (hb : Below w.heap.size w w') : CoordAt w' b c := ⟨h.1.below hb, h.2⟩
theorem tallyAt_below {w w' : World} {b o : Nat} {m : List Bool} (h : TallyAt w b o m) (hb : Below w.heap.size w w') : TallyAt w' b o m := ⟨h.1.below hb, h.2⟩
/-- those who have not said it -/
def lackers (m : List Bool) (k : Nat) : List Nat := (List.range k).filter fun i => !(m.getD i false)
theorem lackers_snoc (m : List Bool) (k : Nat) : lackers m (k + 1) = lackers m k ++ if m.getD k false = true then [] else [k] := by
  unfold lackers
  rw [List.range_succ, List.filter_append]
  congr 1
  cases h : m.getD k false <;> rw [List.filter_cons] <;> simp only [h] <;> rfl
theorem lackers_le (m : List Bool) (k : Nat) : (lackers m k).length ≤ k := by
  unfold lackers
  have := List.length_filter_le (fun i => !(m.getD i false)) (List.range k)
  rw [List.length_range] at this
  exact this
def askVals (c : CSt) (l : List Nat) : List Value := l.flatMap fun v : Nat => (msgArr 1 c.id (v : Int) c.ballot).toList
theorem askVals_snoc (c : CSt) (l : List Nat) (k : Nat) : askVals c (l ++ [k]) = askVals c l ++ (msgArr 1 c.id (k : Int) c.ballot).toList := by simp [askVals]
theorem has_in (b o : Nat) (m : List Bool) (k : Nat) (w : World) (h : TallyAt w b o m) (hk : k < o) :
    Calls Tryz.prog 51 #[.pointer (some ⟨b, 0, none⟩), .int .i64 (k : Int)] w fun e w' => e = .returned (.bool (m.getD k false)) ∧ w = w' := by
  refine (has_any b o m k w h).mono ?_
  rintro e w' ⟨he, hw⟩
  have e1 : (decide ((0 : Int) ≤ (k : Int)) && decide ((k : Int) < (o : Int)) && m.getD (k : Int).toNat false) = m.getD k false := by simp; omega
  rw [e1] at he
  exact ⟨he, hw⟩
set_option maxRecDepth 100000 in
set_option maxHeartbeats 2000000 in
theorem prepare_any (b t : Nat) (c : CSt) (m : List Bool) (n : Nat) (w : World) (h : CoordAt w b c) (hn : c.n = (n : Int)) (hn9 : n ≤ 9) (hp : c.promised = .pointer (some ⟨t, 0, none⟩)) (ht : TallyAt w t n m) :
    Calls Tryz.prog 36 #[.pointer (some ⟨b, 0, none⟩)] w fun e w' => ∃ v, e = .returned v ∧ w'.ownsRow w.heap.size 30 14 v (lackers m n).length (askVals c (lackers m n)) ∧ Below w.heap.size w w' := by
  have h1 : w.cell? ⟨b, 1, none⟩ = some (.int .i64 (n : Int)) := by rw [← hn]; exact h.hd 1 (by omega)
  have h9 : w.cell? ⟨b, 9, none⟩ = some (.pointer (some ⟨t, 0, none⟩)) := by rw [← hp]; exact h.hd 9 (by omega)
  have hbl := h.1.lt
  have H9 := Lib.hid h9
  have H := Lib.hid h
  have Ht := Lib.hid ht
  clear h h9 hn hp ht
  go_enter Tryz.func36, Tryz.ntmps36
  go_wp2
  go_loopw [3, 9] (fun v i wr => ∃ k : Nat, i = .int .i64 k ∧ k ≤ n ∧ Hid (wr.ownsRow w.heap.size 30 14 v (lackers m k).length (askVals c (lackers m k))) ∧ Below w.heap.size w wr) (fun _ i _ => n - (intOf i).toNat)
  case atStart => exact ⟨0, rfl, Nat.zero_le _, Lib.hid (World.ownsRow_nil _ _ _ _), Below.refl _ _⟩
  case round =>
    obtain ⟨k, rfl, hk, hown, hbr⟩ := hrel
    by_cases hlt : k < n
    · have h9 := (hbr.cell (p := ⟨b, 9, none⟩) hbl).trans H9.out
      have Htr := Lib.hid (tallyAt_below Ht.out hbr)
      have Hcr := Lib.hid (H.out.below hbr)
      have hsn := lackers_snoc m k
      have hlk := lackers_le m k
      go_wp2_with fail
      refine (has_in t n m k _ Htr.out hlt).mono ?_
      rintro e wx ⟨rfl, rfl⟩
      cases hm : m.getD k false with
      | true =>
        rw [hm, if_pos rfl, List.append_nil] at hsn
        have Hown : Hid (wr.ownsRow w.heap.size 30 14 u3 (lackers m (k + 1)).length (askVals c (lackers m (k + 1)))) := by rw [hsn]; exact hown
        clear hsn hm
        go_wp2_with fail
        go_roundw
        case rel => exact ⟨k + 1, by go_num, by omega, Hown, hbr⟩
        case measure => simp [intOf]; omega
      | false =>
        rw [hm, if_neg (by simp)] at hsn
        have Hsn := Lib.hid hsn
        clear hsn hm
        go_wp2_with fail
        refine (to_any b c k 1 _ Hcr.out).mono ?_
        rintro e w1 ⟨rfl, hb1⟩
        simp only [msgArr]
        have hown1 := ownsRow_below hown.out hb1
        have hbr1 := below_step hbr hb1
        clear hown hb1
        go_wp2_with (at_builtin; refine append_at rfl _ _ 40 rfl w.heap.size 30 14 144 Tryz.underlying40 _ info_msg rfl (by decide) _ _ _ rfl hown1 _ rfl [.int .i64 1, .int .i64 c.id, .int .i64 (k : Int), .int .i64 c.ballot, .int .i64 0, .int .i64 0, .int .i64 0, .int .i64 0, .int .i64 0, .string ⟨#[]⟩, .int .i64 0, .int .i64 0, .string ⟨#[]⟩, .slice none 0 0] rfl rfl (by simp [Value.oneCell']) ?c1 ?c2 ?c3 ?_)
        case c1 => unfold maxLen; omega
        case c2 => omega
        case c3 => exact hbr1.size
        intro v' w3 hown3 hb3
        have Hown3 : Hid (w3.ownsRow w.heap.size 30 14 v' (lackers m (k + 1)).length (askVals c (lackers m (k + 1)))) := by
          show w3.ownsRow w.heap.size 30 14 v' (lackers m (k + 1)).length _
          rw [Hsn.out, askVals_snoc, List.length_append]
          exact hown3
        clear hown3 hown1
        go_wp2
        go_roundw
        case rel => exact ⟨k + 1, by go_num, by omega, Hown3, hbr1.trans hb3⟩
        case measure => simp [intOf]; omega
    · obtain rfl : k = n := by omega
      go_wp2
      go_ret
      exact ⟨_, rfl, hown.out, hbr⟩
theorem noCall_tick (b t : Nat) (c : CSt) (m : List Bool) (n : Nat) (w : World) (h : CoordAt w b c) (hn : c.n = (n : Int)) (hn1 : 1 ≤ n) (hn9 : n ≤ 9) (hp : c.promised = .pointer (some ⟨t, 0, none⟩)) (ht : TallyAt w t n m) (hph : c.phase = 1) (hc : c.call = .pointer none) :
    Calls Tryz.prog 17 #[.pointer (some ⟨b, 0, none⟩)] w fun e w' => ∃ v, e = .returned v ∧ w'.ownsRow w.heap.size 30 14 v (lackers m n).length (askVals c (lackers m n)) ∧ Below w.heap.size w w' := by
  have h4 : w.cell? ⟨b, 4, none⟩ = some (.int .i64 1) := by rw [← hph]; exact h.hd 4 (by omega)
  have h86 : w.cell? ⟨b, 86, none⟩ = some (.pointer none) := by have := h.ft 2; rw [← hc]; exact this
  have H := Lib.hid h
  have Hn := Lib.hid hn
  have Hp := Lib.hid hp
  have Ht := Lib.hid ht
  clear h hn hp ht hph hc
  go_enter Tryz.func17, Tryz.ntmps17
  go_wp2_with fail
  refine (none_any b c _ H.out (by have := Hn.out; omega)).mono ?_
  rintro e wx ⟨rfl, rfl⟩
  go_wp2_with fail
  refine (prepare_any b t c m n _ H.out Hn.out hn9 Hp.out Ht.out).mono ?_
  rintro e w1 ⟨v, rfl, hown, hb⟩
  go_wp2_with fail
  go_ret
  exact ⟨_, rfl, hown, hb⟩
set_option maxRecDepth 100000 in
set_option maxHeartbeats 2000000 in
theorem awake_any (w : World) : Calls Tryz.prog 7 #[] w fun e w' => e = .returned (.bool true) ∧ Below w.heap.size w w' := by
  go_enter Tryz.func7, Tryz.ntmps7
  go_wp2_with fail
  refine (ideal_any w).mono ?_
  rintro e w1 ⟨bk, mp, rfl, _, _, hbk, _, hb1⟩
  have Hbk := Lib.hid hbk
  clear hbk
  go_wp2_with fail
  refine (newCoord_any 1 3 1 bk mp _ (by unfold NewOk BalOk; omega) Hbk.out).mono ?_
  rintro e w2 ⟨c, t, rfl, _, _, hc, ht, hb2⟩
  have Hc := Lib.hid hc
  have Ht := Lib.hid ht
  have hb02 := below_step hb1 hb2
  clear hc ht hb1 hb2
  go_wp2_with fail
  refine (noCall_tick c t _ (List.replicate 9 false) 3 _ Hc.out rfl (by omega) (by omega) rfl Ht.out rfl rfl).mono ?_
  rintro e w3 ⟨v, rfl, hown, hb3⟩
  have hb03 := below_step hb02 hb3
  have hlk : lackers (List.replicate 9 false) 3 = [0, 1, 2] := by decide
  rw [hlk] at hown
  obtain ⟨g, cap, rfl, hg, hgl, _, _, hcell⟩ := row_some hown (by simp)
  have c0 : w3.cell? ⟨g, 0, none⟩ = some (.int .i64 1) := hcell 0 (by simp)
  have c3 : w3.cell? ⟨g, 3, none⟩ = some (.int .i64 5) := hcell 3 (by simp)
  have c30 : w3.cell? ⟨g, 30, none⟩ = some (.int .i64 2) := hcell 30 (by simp)
  have hl3 : [0, 1, 2].length = 3 := rfl
  rw [hl3]
  clear hown hcell hb3 hlk
  go_wp2_with fail
  go_ret
  exact ⟨rfl, hb03⟩
end Go.Proofs.YtaemlplcjjbamaaGreatDoor
