/- An ideal book of marks in memory: marks.Ideal and Ready. No  -/
import Derived.Test.YtaemlplcjjbamaaGreatDoorBHeld
import Derived.Lib.MinMax
import Derived.Deep.AppendLies
namespace Go.Proofs.YtaemlplcjjbamaaGreatDoor
open Go.Lib (hid)
set_option maxRecDepth 100000
set_option maxHeartbeats 8000000
open Go.RowKit
variable {a w w' w1 : World} {b base m n : Nat} {v : Value}
noncomputable def zDq (m : Value) : List Value := ((Tryz.zeroCells91.setIfInBounds 74 (.bool true)).setIfInBounds 73 m).toList
def zCu (w : World) (b : Nat) (m : Nat) : Prop := Blk w b (zDq (.map (some m))) 91
theorem zDi (m : Value) : (zDq m)[72]? = some (.bool false) ∧ (zDq m)[73]? = some m ∧ (zDq m)[74]? = some (.bool true) := by
 refine ⟨?_, ?_, ?_⟩ <;> kernel_rfl
theorem zCu.real (h : zCu w b m) : w.cell? ⟨b, 72, none⟩ = some (.bool false) := by
 rw [Blk.cell h]; exact (zDi _).1
theorem zCu.seen (h : zCu w b m) : w.cell? ⟨b, 73, none⟩ = some (.map (some m)) := by
 rw [Blk.cell h]; exact (zDi _).2.1
theorem zCu.ideal (h : zCu w b m) : w.cell? ⟨b, 74, none⟩ = some (.bool true) := by
 rw [Blk.cell h]; exact (zDi _).2.2
theorem zEF (w : World) :
  Calls Tryz.prog 15 #[] w fun e w' => ∃ b m, e = .returned (.pointer (some ⟨b, 0, none⟩)) ∧ w.heap.size ≤ b ∧ w.heap.size ≤ m ∧ zCu w' b m ∧ w'.heap[m]? = some (.map #[] 0) ∧ Below w.heap.size w w' := by
 have hmm := @run_makeMap Tryz.prog
 go_enter Tryz.func15, Tryz.ntmps15
 go_wp2
 go_ret
 have hb := Blk.new (w.alloc (Obj.map #[] 0)) (zDq (.map (some w.heap.size))) 91
 rw [World.size_alloc] at hb
 refine ⟨w.heap.size + 1, w.heap.size, rfl, by omega, by omega, hb, ?_, ((Below.refl _ _).alloc (Nat.le_refl _) _).alloc (by simp) _⟩
 rw [Below.heap_alloc _ _ _ (by simp)]
 exact heap_alloc_new w _
theorem zDZ (b m : Nat) (w : World) (h : zCu w b m) :
  Calls Tryz.prog 25 #[.pointer (some ⟨b, 0, none⟩)] w fun e w' => e = .returned (.bool false) ∧ w = w' := by
 have h1 := h.real
 have h2 := h.ideal
 clear h
 go_enter Tryz.func25, Tryz.ntmps25
 go_wp2
 go_ret
 exact ⟨rfl, rfl⟩
theorem zGe (b m : Nat) (w : World) (h : zCu w b m) :
  Calls Tryz.prog 34 #[.pointer (some ⟨b, 0, none⟩)] w fun e w' => e = .returned (.bool true) ∧ w = w' := by
 have H := hid h
 clear h
 go_enter Tryz.func34, Tryz.ntmps34
 go_wp2_with (go_at_call 25; refine (zDZ b m _ H.out).mono ?_; rintro e w' ⟨rfl, rfl⟩)
 go_ret
 exact ⟨rfl, rfl⟩
def major (n : Nat) : Nat := n / 2 + 1
theorem zBS (n : Nat) (w : World) (h : n ≤ 4611686018427387904) :
  Calls Tryz.prog 94 #[.int .i64 (n : Int)] w fun e w' => e = .returned (.int .i64 (major n : Int)) ∧ w = w' := by
 go_enter Tryz.func94, Tryz.ntmps94
 go_wp2_with fail
 go_ret
 refine ⟨zAk ?_, rfl⟩
 unfold major
 omega
def BalOk (a i : Int) : Prop := 0 ≤ i ∧ i < 4 ∧ 1 ≤ a ∧ a ≤ 1099511627776
theorem zIp (a i : Int) (w : World) (h : BalOk a i) :
  Calls Tryz.prog 33 #[.int .i64 a, .int .i64 i] w fun e w' => e = .returned (.tuple #[.int .i64 (a * 4 + i), .int .i64 0]) ∧ w = w' := by
 obtain ⟨h1, h2, h3, h4⟩ := h
 have hd : (decide (i < 0) || decide (4 ≤ i) || decide (a < 1) || decide (1099511627776 < a)) = false := by simp; omega
 go_enter Tryz.func33, Tryz.ntmps33
 go_wp2_with fail
 go_ret2
 exact ⟨rfl, rfl⟩
theorem ballot_no (a i : Int) (w : World) (h : ¬ BalOk a i) :
  Calls Tryz.prog 33 #[.int .i64 a, .int .i64 i] w fun e w' => e = .returned (.tuple #[.int .i64 0, .int .i64 1]) ∧ w = w' := by
 unfold BalOk at h
 have hd : (decide (i < 0) || decide (4 ≤ i) || decide (a < 1) || decide (1099511627776 < a)) = true := by simp; omega
 clear h
 go_enter Tryz.func33, Tryz.ntmps33
 go_wp2_with fail
 all_goals (go_ret2; exact ⟨rfl, rfl⟩)
def zAi (w : World) (b : Nat) (o : Nat) (m : List Bool) : Prop := Blk w b (Value.int .i64 (o : Int) :: m.map Value.bool) 115 ∧ m.length = 9 ∧ o ≤ 9
def clip (n : Int) : Nat := if n < 0 then 0 else if 9 < n then 9 else n.toNat
theorem clip_le (n : Int) : clip n ≤ 9 := by unfold clip; split; omega; split; omega; omega
theorem zAi.of {b o : Nat} {m : List Bool} (h : zAi w b o m) : w.cell? ⟨b, 0, none⟩ = some (.int .i64 (o : Int)) := by
 rw [h.1.cell]; rfl
theorem zAi.has {b o : Nat} {m : List Bool} (h : zAi w b o m) (i : Nat) (hi : i < 9) : w.cell? ⟨b, 1 + i, none⟩ = some (.bool (m.getD i false)) := by
 have hm := h.2.1
 rw [h.1.cell, Nat.add_comm, List.getElem?_cons_succ, List.getElem?_map, List.getD, List.getElem?_eq_getElem (by omega)]
 rfl
theorem zBB (n : Int) (w : World) :
  Calls Tryz.prog 35 #[.int .i64 n] w fun e w' => ∃ b, e = .returned (.pointer (some ⟨b, 0, none⟩)) ∧ w.heap.size ≤ b ∧ zAi w' b (clip n) (List.replicate 9 false) ∧ Below w.heap.size w w' := by
 go_enter Tryz.func35, Tryz.ntmps35
 have e1 : min (max n 0) 9 = (clip n : Int) := by unfold clip; split; omega; split; omega; omega
 go_wp2
 go_ret
 exact ⟨_, rfl, Nat.le_refl _, ⟨Blk.new w (.int .i64 (clip n : Int) :: (List.replicate 9 false).map Value.bool) 115, rfl, clip_le n⟩, (Below.refl _ _).alloc (Nat.le_refl _) _⟩
theorem has_any (b o : Nat) (m : List Bool) (i : Int) (w : World) (h : zAi w b o m) :
  Calls Tryz.prog 51 #[.pointer (some ⟨b, 0, none⟩), .int .i64 i] w fun e w' => e = .returned (.bool (decide (0 ≤ i) && decide (i < o) && m.getD i.toNat false)) ∧ w = w' := by
 have hof := h.of
 have ho := h.2.2
 by_cases hi : 0 ≤ i ∧ i < o
 ·obtain ⟨k, rfl⟩ := Int.eq_ofNat_of_zero_le hi.1
  have hk : k < o := by omega
  have hc := h.has k (by omega)
  have e1 : (decide ((0 : Int) ≤ (k : Int)) && decide ((k : Int) < (o : Int)) && m.getD (k : Int).toNat false) = m.getD k false := by simp; omega
  rw [e1]
  generalize m.getD k false = r at hc ⊢
  clear h hi e1
  go_enter Tryz.func51, Tryz.ntmps51
  go_wp2
  go_ret
  exact ⟨rfl, rfl⟩
 ·have e1 : (decide (0 ≤ i) && decide (i < (o : Int)) && m.getD i.toNat false) = false := by
   have : (decide (0 ≤ i) && decide (i < (o : Int))) = false := by simp; omega
   rw [this]; rfl
  rw [e1]
  clear h e1
  by_cases h0 : 0 ≤ i
  ·have h1 : ¬ i < o := fun hx => hi ⟨h0, hx⟩
   clear hi
   go_enter Tryz.func51, Tryz.ntmps51
   go_wp2
   go_ret
   exact ⟨rfl, rfl⟩
  ·clear hi
   go_enter Tryz.func51, Tryz.ntmps51
   go_wp2
   go_ret
   exact ⟨rfl, rfl⟩
def isOne (i : Int) (o : Nat) : Bool := decide (0 ≤ i) && decide (i < (o : Int))
def addTo (m : List Bool) (i : Int) (o : Nat) : List Bool := if isOne i o = true then m.set i.toNat true else m
theorem zAi.set {b o : Nat} {m : List Bool} (h : zAi w b o m) (k : Nat) : zAi (w.setCell ⟨b, 1 + k, none⟩ (.bool true)) b o (m.set k true) := by
 refine ⟨?_, by rw [List.length_set]; exact h.2.1, h.2.2⟩
 have hb := h.1.set (1 + k) (.bool true)
 rw [Nat.add_comm 1 k, List.set_cons_succ, ← List.map_set] at hb
 rw [Nat.add_comm 1 k]
 exact hb
theorem zDS (b o : Nat) (m : List Bool) (i : Int) (w : World) (h : zAi w b o m) :
  Calls Tryz.prog 83 #[.pointer (some ⟨b, 0, none⟩), .int .i64 i] w fun e w' => e = .returned (.bool (isOne i o)) ∧ zAi w' b o (addTo m i o) ∧ Touch (fun k => k = b) w w' := by
 have hof := h.of
 have ho := h.2.2
 have H := hid h
 by_cases hi : isOne i o = true
 ·have e2 : addTo m i o = m.set i.toNat true := by unfold addTo; rw [if_pos hi]
  rw [e2, hi]
  have hi2 : 0 ≤ i ∧ i < o := by unfold isOne at hi; simpa using hi
  obtain ⟨k, rfl⟩ := Int.eq_ofNat_of_zero_le hi2.1
  have hk : k < o := by omega
  have hc := h.has k (by omega)
  have hf := h.1.free (1 + k)
  rw [Int.toNat_natCast]
  clear h hi hi2 e2
  go_enter Tryz.func83, Tryz.ntmps83
  go_wp2
  go_ret
  exact ⟨rfl, H.out.set k, (Touch.refl (fun k => k = b) w).set (p := ⟨b, 1 + k, none⟩) (Or.inl rfl) _⟩
 ·have e2 : addTo m i o = m := by unfold addTo; rw [if_neg hi]
  have hi' : isOne i o = false := by simpa using hi
  rw [e2, hi']
  have hd : ¬ (0 ≤ i ∧ i < o) := by unfold isOne at hi; simpa using hi
  clear h e2 hi hi'
  by_cases h0 : 0 ≤ i
  ·have h1 : ¬ i < o := fun hx => hd ⟨h0, hx⟩
   clear hd
   go_enter Tryz.func83, Tryz.ntmps83
   go_wp2
   go_ret
   exact ⟨rfl, H.out, Touch.refl _ _⟩
  ·clear hd
   go_enter Tryz.func83, Tryz.ntmps83
   go_wp2
   go_ret
   exact ⟨rfl, H.out, Touch.refl _ _⟩
def cntTo (m : List Bool) (o k : Nat) : Nat := (List.range k).countP fun i => decide (i < o) && m.getD i false
def cnt (m : List Bool) (o : Nat) : Nat := cntTo m o 9
theorem cntTo_snoc (m : List Bool) (o k : Nat) : cntTo m o (k + 1) = cntTo m o k + if (decide (0 ≤ (k : Int)) && decide ((k : Int) < (o : Int)) && m.getD (k : Int).toNat false) = true then 1 else 0 := by
 unfold cntTo
 rw [List.range_succ, List.countP_append, List.countP_cons, List.countP_nil, Nat.zero_add]
 congr 2
 rw [Bool.eq_iff_iff]
 simp
theorem zEN (b o : Nat) (m : List Bool) (w : World) (h : zAi w b o m) :
  Calls Tryz.prog 93 #[.pointer (some ⟨b, 0, none⟩)] w fun e w' => e = .returned (.int .i64 (cnt m o : Int)) ∧ w = w' := by
 have H := hid h
 clear h
 go_enter Tryz.func93, Tryz.ntmps93
 go_wp2
 go_loop [3, 5] (fun n i => ∃ k x : Nat, k ≤ 9 ∧ i = .int .i64 k ∧ n = .int .i64 x ∧ x ≤ k ∧ Hid (x = cntTo m o k)) (fun _ i => 9 - (intOf i).toNat)
 case atStart => exact ⟨0, 0, Nat.zero_le _, rfl, rfl, Nat.zero_le _, hid rfl⟩
 case round =>
  obtain ⟨k, x, hk, rfl, rfl, hxk, Hx⟩ := hrel
  by_cases hlt : k < 9
  ·have Hs := hid (cntTo_snoc m o k)
   go_wp2_with fail
   refine (has_any b o m k _ H.out).mono ?_
   rintro e wx ⟨rfl, rfl⟩
   generalize (decide (0 ≤ (k : Int)) && decide ((k : Int) < (o : Int)) && m.getD (k : Int).toNat false) = t at Hs ⊢
   cases t
   ·go_wp2_with fail
    go_round
    case rel => exact ⟨k + 1, x, by omega, by go_num, rfl, by omega, hid (by rw [Hs.out, ← Hx.out]; simp)⟩
    case measure => simp [intOf]; omega
   ·go_wp2_with fail
    go_round
    case rel => exact ⟨k + 1, x + 1, by omega, by go_num, by go_num, by omega, hid (by rw [Hs.out, ← Hx.out]; simp)⟩
    case measure => simp [intOf]; omega
  ·have hk' : k = 9 := by omega
   subst hk'
   go_wp2
   go_ret
   exact ⟨zAk (by rw [Hx.out]; rfl), rfl⟩
def wonT (m : List Bool) (o : Nat) : Bool := decide (0 < o) && decide (o < 2 * cnt m o)
theorem zAi.drewN {b o : Nat} {m : List Bool} (h : zAi w b o m) (n : Nat) : zAi (w.drewN n) b o m := h
theorem zFi (b o : Nat) (m : List Bool) (w : World) (h : zAi w b o m) :
  Calls Tryz.prog 61 #[.pointer (some ⟨b, 0, none⟩)] w fun e w' => e = .returned (.bool (wonT m o)) ∧ ∃ n, w' = w.drewN n := by
 have hof := h.of
 have ho := h.2.2
 have H := hid h
 clear h
 by_cases h0 : o = 0
 ·subst h0
  have e1 : wonT m 0 = false := rfl
  rw [e1]
  go_enter Tryz.func61, Tryz.ntmps61
  go_wp2
  go_quiet (fail)
  go_wp2
  go_ret
  exact ⟨rfl, _, rfl⟩
 ·have hd : 0 < o := by omega
  have hd2 : decide (0 < o) = true := by simp; omega
  have e1 : wonT m o = decide (major o ≤ cnt m o) := by
   unfold wonT major
   rw [Bool.eq_iff_iff]
   simp
   omega
  rw [e1]
  clear e1
  go_enter Tryz.func61, Tryz.ntmps61
  go_wp2
  go_quiet (first | (go_at_call 93; first | exact zAf (zEN b o m _ (H.out.drewN _)) | exact quiet_add_left (zEN b o m _ (H.out.drewN _))) | (go_at_call 94; first | exact zAf (zBS o _ (by omega)) | exact quiet_add_left (zBS o _ (by omega))))
  go_wp2
  go_ret
  exact ⟨rfl, _, rfl⟩
structure CSt where
 id : Int
 n : Int
 book : Value
 ballot : Int
 phase : Int
 floor : Int
 top : Int
 chosen : Value
 images : Value
 promised : Value
 promises : Value
 again : Value
 peers : List Value
 job : Value
 fetch : Value
 call : Value
 left : Int
 read : Int
 yes : Value
 pruned : Value
 answer : Value
def CSt.head (c : CSt) : List Value := [.int .i64 c.id, .int .i64 c.n, c.book, .int .i64 c.ballot, .int .i64 c.phase, .int .i64 c.floor, .int .i64 c.top, c.chosen, c.images, c.promised, c.promises, c.again]
def CSt.foot (c : CSt) : List Value := [c.job, c.fetch, c.call, .int .i64 c.left, .int .i64 c.read, c.yes, c.pruned, c.answer]
def CSt.cells (c : CSt) : List Value := c.head ++ (c.peers ++ c.foot)
def zAb (w : World) (b : Nat) (c : CSt) : Prop := Blk w b c.cells 78 ∧ c.peers.length = 72
theorem zAb.hd {c : CSt} (h : zAb w b c) (j : Nat) (hj : j < 12) : w.cell? ⟨b, j, none⟩ = c.head[j]? := by
 rw [h.1.cell, CSt.cells, List.getElem?_append_left (by simpa [CSt.head] using hj)]
theorem zAb.ft {c : CSt} (h : zAb w b c) (j : Nat) : w.cell? ⟨b, 84 + j, none⟩ = c.foot[j]? := by
 have h12 : c.head.length = 12 := rfl
 rw [h.1.cell, CSt.cells, List.getElem?_append_right (by omega), List.getElem?_append_right (by have := h.2; omega)]
 congr 1
 have := h.2
 omega
def noPeers : List Value := (List.replicate 9 [.bool false, .int .i64 0, .int .i64 0, .int .i64 0, .string ⟨#[]⟩, .bool false, .int .i64 0, .pointer none]).flatten
def zEx (id n stamp : Int) (book tally : Value) : CSt := ⟨id, n, book, stamp * 4 + id, 1, 0, 0, .slice none 0 0, .slice none 0 0, tally, .slice none 0 0, .slice none 0 0, noPeers, .pointer none, .pointer none, .pointer none, 0, 0, .pointer none, .pointer none, .pointer none⟩
def NewOk (id n stamp : Int) : Prop := BalOk stamp id ∧ 1 ≤ n ∧ n ≤ 9
theorem zEi (id n stamp : Int) (b m : Nat) (w : World) (h : NewOk id n stamp) (hb : zCu w b m) :
  Calls Tryz.prog 16 #[.int .i64 id, .int .i64 n, .int .i64 stamp, .pointer (some ⟨b, 0, none⟩)] w fun e w' => ∃ c t, e = .returned (.tuple #[.pointer (some ⟨c, 0, none⟩), .int .i64 0]) ∧ w.heap.size ≤ c ∧ w.heap.size ≤ t ∧ zAb w' c (zEx id n stamp (.pointer (some ⟨b, 0, none⟩)) (.pointer (some ⟨t, 0, none⟩))) ∧ zAi w' t n.toNat (List.replicate 9 false) ∧ Below w.heap.size w w' := by
 obtain ⟨h1, h2, h3⟩ := h
 have H1 := hid h1
 have Hb := hid hb
 clear h1 hb
 go_enter Tryz.func16, Tryz.ntmps16
 go_wp2_with fail
 refine (zIp stamp id _ H1.out).mono ?_
 rintro e wx ⟨rfl, rfl⟩
 go_wp2_with fail
 refine (zGe b m _ Hb.out).mono ?_
 rintro e wx ⟨rfl, rfl⟩
 go_wp2_with fail
 refine (zBB n _).mono ?_
 rintro e w1 ⟨t, rfl, ht, hT, hb1⟩
 go_wp2_with fail
 go_ret2
 have hcl : clip n = n.toNat := by unfold clip; rw [if_neg (by omega), if_neg (by omega)]
 have hcs : ((((((Tryz.zeroCells78.setIfInBounds 0 (.int .i64 id)).setIfInBounds 1 (.int .i64 n)).setIfInBounds 2 (.pointer (some ⟨b, 0, none⟩))).setIfInBounds 3 (.int .i64 (stamp * 4 + id))).setIfInBounds 4 (.int .i64 1)).setIfInBounds 9 (.pointer (some ⟨t, 0, none⟩))) = (zEx id n stamp (.pointer (some ⟨b, 0, none⟩)) (.pointer (some ⟨t, 0, none⟩))).cells.toArray := by kernel_rfl
 rw [hcs]
 exact ⟨_, t, rfl, hb1.size, ht, ⟨Blk.new w1 _ _, rfl⟩, by rw [← hcl]; exact ⟨hT.1.alloc _, hT.2⟩, hb1.alloc hb1.size _⟩
theorem zJd (id n stamp : Int) (b m : Nat) (w : World) (h : ¬ NewOk id n stamp) (hb : zCu w b m) :
  Calls Tryz.prog 16 #[.int .i64 id, .int .i64 n, .int .i64 stamp, .pointer (some ⟨b, 0, none⟩)] w fun e w' => e = .returned (.tuple #[.pointer none, .int .i64 1]) ∧ w = w' := by
 have Hb := hid hb
 clear hb
 by_cases hbal : BalOk stamp id
 ·have hn : n < 1 ∨ 9 < n := by have h2 : ¬ (1 ≤ n ∧ n ≤ 9) := fun hx => h ⟨hbal, hx⟩; omega
  have Hbal := hid hbal
  clear h hbal
  rcases hn with hn | hn
  all_goals
   go_enter Tryz.func16, Tryz.ntmps16
   go_wp2_with fail
   refine (zIp stamp id _ Hbal.out).mono ?_
   rintro e wx ⟨rfl, rfl⟩
   go_wp2_with fail
   go_ret2
   exact ⟨rfl, rfl⟩
 ·have Hbal := hid hbal
  clear h hbal
  go_enter Tryz.func16, Tryz.ntmps16
  go_wp2_with fail
  refine (ballot_no stamp id _ Hbal.out).mono ?_
  rintro e wx ⟨rfl, rfl⟩
  go_wp2_with fail
  go_ret2
  exact ⟨rfl, rfl⟩
theorem zAh (b : Nat) (c : CSt) (w : World) (h : zAb w b c) (hn : 1 ≤ c.n) :
  Calls Tryz.prog 18 #[.pointer (some ⟨b, 0, none⟩)] w fun e w' => e = .returned (.bool false) ∧ w = w' := by
 have h1 : w.cell? ⟨b, 1, none⟩ = some (.int .i64 c.n) := h.hd 1 (by omega)
 have hne : (c.n == 0) = false := by simp; omega
 clear h
 go_enter Tryz.func18, Tryz.ntmps18
 go_wp2
 go_ret
 exact ⟨rfl, rfl⟩
theorem zBP (b : Nat) (c : CSt) (w : World) (h : zAb w b c) (hn : 1 ≤ c.n) :
  Calls Tryz.prog 30 #[.pointer (some ⟨b, 0, none⟩)] w fun e w' => e = .returned (.int .i64 c.ballot) ∧ w = w' := by
 have h1 : w.cell? ⟨b, 3, none⟩ = some (.int .i64 c.ballot) := h.hd 3 (by omega)
 have H := hid h
 clear h
 go_enter Tryz.func30, Tryz.ntmps30
 go_wp2_with (go_at_call 18; refine (zAh b c _ H.out hn).mono ?_; rintro e w' ⟨rfl, rfl⟩)
 go_ret
 exact ⟨rfl, rfl⟩
def zCk : Value := .tuple #[.agg #[.int .i64 0, .int .i64 0, .int .i64 0, .slice none 0 0, .slice none 0 0], .bool false]
theorem take_none (b : Nat) (c : CSt) (w : World) (h : zAb w b c) (hn : 1 ≤ c.n) (ha : c.answer = .pointer none) :
  Calls Tryz.prog 13 #[.pointer (some ⟨b, 0, none⟩)] w fun e w' => e = .returned zCk ∧ Below w.heap.size w w' := by
 have hb := h.1.lt
 have h1 : w.cell? ⟨b, 91, none⟩ = some (.pointer none) := by have := h.ft 7; rw [← ha]; exact this
 have H := hid h
 clear h ha
 go_enter Tryz.func13, Tryz.ntmps13
 go_wp2_with fail
 refine (zAh b c _ ⟨H.out.1.alloc _, H.out.2⟩ hn).mono ?_
 rintro e w' ⟨rfl, rfl⟩
 go_wp2_with fail
 refine bodyPost_ret (v := zCk) (by simp [zCk, results, Tryz.results13, go_sem]) rfl ⟨rfl, ?_⟩
 exact (Below.refl _ _).alloc (Nat.le_refl _) _
def zBM (kind id v ballot : Int) : Array Value := #[.int .i64 kind, .int .i64 id, .int .i64 v, .int .i64 ballot, .int .i64 0, .int .i64 0, .int .i64 0, .int .i64 0, .int .i64 0, .string ⟨#[]⟩, .int .i64 0, .int .i64 0, .string ⟨#[]⟩, .slice none 0 0]
theorem zBE : (Tryz.prog.info? 30).map (fun i => (i.zero, i.size, i.bytes)) = some (some (.agg (zBM 0 0 0 0)), 14, 144) := by kernel_rfl
theorem zEA (b : Nat) (c : CSt) (v kind : Int) (w : World) (h : zAb w b c) :
  Calls Tryz.prog 52 #[.pointer (some ⟨b, 0, none⟩), .int .i64 v, .int .i64 kind] w fun e w' => e = .returned (.agg (zBM kind c.id v c.ballot)) ∧ Below w.heap.size w w' := by
 have hb := h.1.lt
 have h0 : w.cell? ⟨b, 0, none⟩ = some (.int .i64 c.id) := h.hd 0 (by omega)
 have h3 : w.cell? ⟨b, 3, none⟩ = some (.int .i64 c.ballot) := h.hd 3 (by omega)
 clear h
 go_enter Tryz.func52, Tryz.ntmps52
 go_wp2
 go_region
 all_goals
  go_wp2_with fail
  refine bodyPost_ret (v := .agg (zBM kind c.id v c.ballot)) (by simp [zBM, results, Tryz.results52, go_sem]) rfl ⟨rfl, ?_⟩
  exact ((Below.refl _ _).alloc (Nat.le_refl _) _).drew
theorem zAb.below {c : CSt} (h : zAb w b c) (hb : Below w.heap.size w w') : zAb w' b c := ⟨h.1.below hb, h.2⟩
theorem zBk {b o : Nat} {m : List Bool} (h : zAi w b o m) (hb : Below w.heap.size w w') : zAi w' b o m := ⟨h.1.below hb, h.2⟩
def zAU (m : List Bool) (k : Nat) : List Nat := (List.range k).filter fun i => !(m.getD i false)
theorem zHQ (m : List Bool) (k : Nat) : zAU m (k + 1) = zAU m k ++ if m.getD k false = true then [] else [k] := by
 unfold zAU
 rw [List.range_succ, List.filter_append]
 congr 1
 cases h : m.getD k false <;> rw [List.filter_cons] <;> simp only [h] <;> rfl
theorem lackers_le (m : List Bool) (k : Nat) : (zAU m k).length ≤ k := by
 unfold zAU
 have := List.length_filter_le (fun i => !(m.getD i false)) (List.range k)
 rw [List.length_range] at this
 exact this
def zCE (c : CSt) (l : List Nat) : List Value := l.flatMap fun v : Nat => (zBM 1 c.id (v : Int) c.ballot).toList
theorem zHX (c : CSt) (l : List Nat) (k : Nat) : zCE c (l ++ [k]) = zCE c l ++ (zBM 1 c.id (k : Int) c.ballot).toList := by simp [zCE]
theorem zDF (b o : Nat) (m : List Bool) (k : Nat) (w : World) (h : zAi w b o m) (hk : k < o) :
  Calls Tryz.prog 51 #[.pointer (some ⟨b, 0, none⟩), .int .i64 (k : Int)] w fun e w' => e = .returned (.bool (m.getD k false)) ∧ w = w' := by
 refine (has_any b o m k w h).mono ?_
 rintro e w' ⟨he, hw⟩
 have e1 : (decide ((0 : Int) ≤ (k : Int)) && decide ((k : Int) < (o : Int)) && m.getD (k : Int).toNat false) = m.getD k false := by simp; omega
 rw [e1] at he
 exact ⟨he, hw⟩
theorem zJs (b t : Nat) (c : CSt) (m : List Bool) (n : Nat) (w : World) (h : zAb w b c) (hn : c.n = (n : Int)) (hn9 : n ≤ 9) (hp : c.promised = .pointer (some ⟨t, 0, none⟩)) (ht : zAi w t n m) :
  Calls Tryz.prog 36 #[.pointer (some ⟨b, 0, none⟩)] w fun e w' => ∃ v, e = .returned v ∧ w'.ownsRow w.heap.size 30 14 v (zAU m n).length (zCE c (zAU m n)) ∧ Below w.heap.size w w' := by
 have h1 : w.cell? ⟨b, 1, none⟩ = some (.int .i64 (n : Int)) := by rw [← hn]; exact h.hd 1 (by omega)
 have h9 : w.cell? ⟨b, 9, none⟩ = some (.pointer (some ⟨t, 0, none⟩)) := by rw [← hp]; exact h.hd 9 (by omega)
 have hbl := h.1.lt
 have H9 := hid h9
 have H := hid h
 have Ht := hid ht
 clear h h9 hn hp ht
 go_enter Tryz.func36, Tryz.ntmps36
 go_wp2
 go_loopw [3, 9] (fun v i wr => ∃ k : Nat, i = .int .i64 k ∧ k ≤ n ∧ Hid (wr.ownsRow w.heap.size 30 14 v (zAU m k).length (zCE c (zAU m k))) ∧ Below w.heap.size w wr) (fun _ i _ => n - (intOf i).toNat)
 case atStart => exact ⟨0, rfl, Nat.zero_le _, hid (World.ownsRow_nil _ _ _ _), Below.refl _ _⟩
 case round =>
  obtain ⟨k, rfl, hk, hown, hbr⟩ := hrel
  by_cases hlt : k < n
  ·have h9 := (hbr.cell (p := ⟨b, 9, none⟩) hbl).trans H9.out
   have Htr := hid (zBk Ht.out hbr)
   have Hcr := hid (H.out.below hbr)
   have hsn := zHQ m k
   have hlk := lackers_le m k
   go_wp2_with fail
   refine (zDF t n m k _ Htr.out hlt).mono ?_
   rintro e wx ⟨rfl, rfl⟩
   cases hm : m.getD k false with
   | true =>
    rw [hm, if_pos rfl, List.append_nil] at hsn
    have Hown : Hid (wr.ownsRow w.heap.size 30 14 u3 (zAU m (k + 1)).length (zCE c (zAU m (k + 1)))) := by rw [hsn]; exact hown
    clear hsn hm
    go_wp2_with fail
    go_roundw
    case rel => exact ⟨k + 1, by go_num, by omega, Hown, hbr⟩
    case measure => simp [intOf]; omega
   | false =>
    rw [hm, if_neg (by simp)] at hsn
    have Hsn := hid hsn
    clear hsn hm
    go_wp2_with fail
    refine (zEA b c k 1 _ Hcr.out).mono ?_
    rintro e w1 ⟨rfl, hb1⟩
    simp only [zBM]
    have hown1 := zAc hown.out hb1
    have hbr1 := zAd hbr hb1
    clear hown hb1
    go_wp2_with (at_builtin; refine zAH rfl _ _ 40 rfl w.heap.size 30 14 144 Tryz.underlying40 _ zBE rfl (by decide) _ _ _ rfl hown1 _ rfl [.int .i64 1, .int .i64 c.id, .int .i64 (k : Int), .int .i64 c.ballot, .int .i64 0, .int .i64 0, .int .i64 0, .int .i64 0, .int .i64 0, .string ⟨#[]⟩, .int .i64 0, .int .i64 0, .string ⟨#[]⟩, .slice none 0 0] rfl rfl (by simp [Value.oneCell']) ?c1 ?c2 ?c3 ?_)
    case c1 => unfold maxLen; omega
    case c2 => omega
    case c3 => exact hbr1.size
    intro v' w3 hown3 hb3
    have Hown3 : Hid (w3.ownsRow w.heap.size 30 14 v' (zAU m (k + 1)).length (zCE c (zAU m (k + 1)))) := by
     show w3.ownsRow w.heap.size 30 14 v' (zAU m (k + 1)).length _
     rw [Hsn.out, zHX, List.length_append]
     exact hown3
    clear hown3 hown1
    go_wp2
    go_roundw
    case rel => exact ⟨k + 1, by go_num, by omega, Hown3, hbr1.trans hb3⟩
    case measure => simp [intOf]; omega
  ·obtain rfl : k = n := by omega
   go_wp2
   go_ret
   exact ⟨_, rfl, hown.out, hbr⟩
theorem zJn (b t : Nat) (c : CSt) (m : List Bool) (n : Nat) (w : World) (h : zAb w b c) (hn : c.n = (n : Int)) (hn1 : 1 ≤ n) (hn9 : n ≤ 9) (hp : c.promised = .pointer (some ⟨t, 0, none⟩)) (ht : zAi w t n m) (hph : c.phase = 1) (hc : c.call = .pointer none) :
  Calls Tryz.prog 17 #[.pointer (some ⟨b, 0, none⟩)] w fun e w' => ∃ v, e = .returned v ∧ w'.ownsRow w.heap.size 30 14 v (zAU m n).length (zCE c (zAU m n)) ∧ Below w.heap.size w w' := by
 have h4 : w.cell? ⟨b, 4, none⟩ = some (.int .i64 1) := by rw [← hph]; exact h.hd 4 (by omega)
 have h86 : w.cell? ⟨b, 86, none⟩ = some (.pointer none) := by have := h.ft 2; rw [← hc]; exact this
 have H := hid h
 have Hn := hid hn
 have Hp := hid hp
 have Ht := hid ht
 clear h hn hp ht hph hc
 go_enter Tryz.func17, Tryz.ntmps17
 go_wp2_with fail
 refine (zAh b c _ H.out (by have := Hn.out; omega)).mono ?_
 rintro e wx ⟨rfl, rfl⟩
 go_wp2_with fail
 refine (zJs b t c m n _ H.out Hn.out hn9 Hp.out Ht.out).mono ?_
 rintro e w1 ⟨v, rfl, hown, hb⟩
 go_wp2_with fail
 go_ret
 exact ⟨_, rfl, hown, hb⟩
theorem zCd (w : World) : Calls Tryz.prog 7 #[] w fun e w' => e = .returned (.bool true) ∧ Below w.heap.size w w' := by
 go_enter Tryz.func7, Tryz.ntmps7
 go_wp2_with fail
 refine (zEF w).mono ?_
 rintro e w1 ⟨bk, mp, rfl, _, _, hbk, _, hb1⟩
 have Hbk := hid hbk
 clear hbk
 go_wp2_with fail
 refine (zEi 1 3 1 bk mp _ (by unfold NewOk BalOk; omega) Hbk.out).mono ?_
 rintro e w2 ⟨c, t, rfl, _, _, hc, ht, hb2⟩
 have Hc := hid hc
 have Ht := hid ht
 have hb02 := zAd hb1 hb2
 clear hc ht hb1 hb2
 go_wp2_with fail
 refine (zJn c t _ (List.replicate 9 false) 3 _ Hc.out rfl (by omega) (by omega) rfl Ht.out rfl rfl).mono ?_
 rintro e w3 ⟨v, rfl, hown, hb3⟩
 have hb03 := zAd hb02 hb3
 have hlk : zAU (List.replicate 9 false) 3 = [0, 1, 2] := by decide
 rw [hlk] at hown
 obtain ⟨g, cap, rfl, hg, hgl, _, _, hcell⟩ := zAz hown (by simp)
 have c0 : w3.cell? ⟨g, 0, none⟩ = some (.int .i64 1) := hcell 0 (by simp)
 have c3 : w3.cell? ⟨g, 3, none⟩ = some (.int .i64 5) := hcell 3 (by simp)
 have c30 : w3.cell? ⟨g, 30, none⟩ = some (.int .i64 2) := hcell 30 (by simp)
 have hl3 : [0, 1, 2].length = 3 := rfl
 rw [hl3]
 clear hown hcell hb3 hlk
 go_wp2_with fail
 go_ret
 exact ⟨rfl, hb03⟩
structure Peer where
 told : Bool
 floor : Int
 top : Int
 has : Int
 mark : ByteArray
 whole : Bool
 cursor : Int
 pack : Value
def Peer.vals (p : Peer) : List Value := [.bool p.told, .int .i64 p.floor, .int .i64 p.top, .int .i64 p.has, .string p.mark, .bool p.whole, .int .i64 p.cursor, p.pack]
def zAg (ps : List Peer) : List Value := ps.flatMap Peer.vals
theorem zBC (ps : List Peer) : (zAg ps).length = ps.length * 8 := by
 induction ps with
 | nil => rfl
 | cons p ps ih =>
  have e : zAg (p :: ps) = p.vals ++ zAg ps := rfl
  rw [e, List.length_append, ih]
  simp [Peer.vals]; omega
theorem zHN (ps : List Peer) (v : Nat) (hv : v < ps.length) (j : Nat) (hj : j < 8) : (zAg ps)[v * 8 + j]? = ps[v].vals[j]? := by
 induction ps generalizing v with
 | nil => simp at hv
 | cons p ps ih =>
  have e : zAg (p :: ps) = p.vals ++ zAg ps := rfl
  have hl : p.vals.length = 8 := rfl
  rw [e]
  cases v with
  | zero => rw [List.getElem?_append_left (by omega)]; simp
  | succ v =>
   rw [List.getElem?_append_right (by omega), hl, show (v + 1) * 8 + j - 8 = v * 8 + j by omega]
   exact ih v (by simpa using hv)
theorem zGn (ps : List Peer) (v : Nat) (hv : v < ps.length) (j : Nat) (hj : j < 8) (x : Value) (p' : Peer) (h : p'.vals = ps[v].vals.set j x) : (zAg ps).set (v * 8 + j) x = zAg (ps.set v p') := by
 induction ps generalizing v with
 | nil => simp at hv
 | cons p ps ih =>
  have e : ∀ q qs, zAg (q :: qs) = q.vals ++ zAg qs := fun _ _ => rfl
  have hl : p.vals.length = 8 := rfl
  rw [e]
  cases v with
  | zero =>
   rw [List.set_cons_zero, e, List.set_append_left _ _ (by omega), h]
   simp
  | succ v =>
   rw [List.set_cons_succ, e, List.set_append_right _ _ (by omega), hl, show (v + 1) * 8 + j - 8 = v * 8 + j by omega]
   rw [ih v (by simpa using hv) (by simpa using h)]
theorem zAb.peer {c : CSt} {ps : List Peer} (h : zAb w b c) (hp : c.peers = zAg ps) (v : Nat) (hv : v < ps.length) (j : Nat) (hj : j < 8) : w.cell? ⟨b, 12 + v * 8 + j, none⟩ = ps[v].vals[j]? := by
 have h12 : c.head.length = 12 := rfl
 have hpl := zBC ps
 rw [h.1.cell, CSt.cells, List.getElem?_append_right (by omega), List.getElem?_append_left (by rw [hp]; omega), hp, h12, show 12 + v * 8 + j - 12 = v * 8 + j by omega]
 exact zHN ps v hv j hj
theorem zAb.setPeer {c : CSt} {ps : List Peer} (h : zAb w b c) (hp : c.peers = zAg ps) (v : Nat) (hv : v < ps.length) (j : Nat) (hj : j < 8) (x : Value) (p' : Peer) (hx : p'.vals = ps[v].vals.set j x) :
  zAb (w.setCell ⟨b, 12 + v * 8 + j, none⟩ x) b { c with peers := zAg (ps.set v p') } := by
 have h12 : c.head.length = 12 := rfl
 have hpl := zBC ps
 refine ⟨?_, ?_⟩
 ·have hb := h.1.set (12 + v * 8 + j) x
  rw [CSt.cells, List.set_append_right _ _ (by omega), List.set_append_left _ _ (by rw [hp]; omega), hp, h12, show 12 + v * 8 + j - 12 = v * 8 + j by omega, zGn ps v hv j hj x p' hx] at hb
  exact hb
 ·show (zAg (ps.set v p')).length = 72
  have := h.2
  rw [hp] at this
  rw [zBC, List.length_set, ← hpl]
  exact this
theorem zAb.setPeer2 {c : CSt} {ps : List Peer} {v : Nat} {p : Peer} (h : zAb w b { c with peers := zAg (ps.set v p) }) (hv : v < ps.length) (j : Nat) (hj : j < 8) (x : Value) (p' : Peer) (hx : p'.vals = p.vals.set j x) :
  zAb (w.setCell ⟨b, 12 + v * 8 + j, none⟩ x) b { c with peers := zAg (ps.set v p') } := by
 have hv' : v < (ps.set v p).length := by rw [List.length_set]; exact hv
 have h2 := zAb.setPeer (c := { c with peers := zAg (ps.set v p) }) (ps := ps.set v p) h rfl v hv' j hj x p' (by rw [List.getElem_set_self]; exact hx)
 rw [List.set_set] at h2
 exact h2
theorem zAb.asPeers {c : CSt} {ps : List Peer} (h : zAb w b c) (hp : c.peers = zAg ps) (v : Nat) (hv : v < ps.length) : zAb w b { c with peers := zAg (ps.set v ps[v]) } := by
 rw [List.set_getElem_self]
 rw [← hp]
 exact h
def zAQ (p : Peer) (fl tp : Int) : Peer :=
 if p.told = false ∨ p.top < tp then { p with told := true, top := tp, pack := .pointer none, whole := false, floor := max p.floor fl } else { p with told := true, floor := max p.floor fl }
theorem zHD {c : CSt} {ps : List Peer} {v : Nat} {p : Peer} (fl tp : Int) (h : zAb w1 b c) (hp : c.peers = zAg ps) (hvl : v < ps.length) (hpv : p = ps[v]) (ht : p.told = false ∨ p.top < tp) :
  zAb (((((w1.setCell ⟨b, 12 + v * 8 + 2, none⟩ (.int .i64 tp)).setCell ⟨b, 12 + v * 8 + 7, none⟩ (.pointer none)).setCell ⟨b, 12 + v * 8 + 5, none⟩ (.bool false)).setCell ⟨b, 12 + v * 8, none⟩ (.bool true)).setCell ⟨b, 12 + v * 8 + 1, none⟩ (.int .i64 (max p.floor fl))) b { c with peers := zAg (ps.set v (zAQ p fl tp)) } := by
 have q1 := h.asPeers hp v hvl
 rw [← hpv] at q1
 have q2 := q1.setPeer2 hvl 2 (by omega) (.int .i64 tp) { p with top := tp } rfl
 have q3 := q2.setPeer2 hvl 7 (by omega) (.pointer none) { p with top := tp, pack := .pointer none } rfl
 have q4 := q3.setPeer2 hvl 5 (by omega) (.bool false) { p with top := tp, pack := .pointer none, whole := false } rfl
 have q5 := q4.setPeer2 hvl 0 (by omega) (.bool true) { p with top := tp, pack := .pointer none, whole := false, told := true } rfl
 have q6 := q5.setPeer2 hvl 1 (by omega) (.int .i64 (max p.floor fl)) { p with top := tp, pack := .pointer none, whole := false, told := true, floor := max p.floor fl } rfl
 have hfp : zAQ p fl tp = { p with top := tp, pack := .pointer none, whole := false, told := true, floor := max p.floor fl } := by unfold zAQ; rw [if_pos ht]
 rw [hfp]
 exact q6
theorem far_sets2 {c : CSt} {ps : List Peer} {v : Nat} {p : Peer} (fl tp : Int) (h : zAb w1 b c) (hp : c.peers = zAg ps) (hvl : v < ps.length) (hpv : p = ps[v]) (ht : ¬ (p.told = false ∨ p.top < tp)) :
  zAb ((w1.setCell ⟨b, 12 + v * 8, none⟩ (.bool true)).setCell ⟨b, 12 + v * 8 + 1, none⟩ (.int .i64 (max p.floor fl))) b { c with peers := zAg (ps.set v (zAQ p fl tp)) } := by
 have q1 := h.asPeers hp v hvl
 rw [← hpv] at q1
 have q5 := q1.setPeer2 hvl 0 (by omega) (.bool true) { p with told := true } rfl
 have q6 := q5.setPeer2 hvl 1 (by omega) (.int .i64 (max p.floor fl)) { p with told := true, floor := max p.floor fl } rfl
 have hfp : zAQ p fl tp = { p with told := true, floor := max p.floor fl } := by unfold zAQ; rw [if_neg ht]
 rw [hfp]
 exact q6
theorem zAb.drew {c : CSt} (h : zAb w b c) : zAb w.drew b c := h
theorem zAb.drewN {c : CSt} (h : zAb w b c) (n : Nat) : zAb (w.drewN n) b c := h
theorem zAb.alloc {c : CSt} (h : zAb w b c) (o : Obj) : zAb (w.alloc o) b c := ⟨h.1.alloc o, h.2⟩
theorem zAa {b o : Nat} (h : Touch (fun k => k = b) a w) (v : Value) : Touch (fun k => k = b) a (w.setCell ⟨b, o, none⟩ v) := h.set (p := ⟨b, o, none⟩) (Or.inl rfl) v
theorem far_any (b : Nat) (c : CSt) (ps : List Peer) (v : Nat) (kind to' bal gen basis fl tp rd pa po : Int) (mk pt : ByteArray) (ls : Value) (w : World) (h : zAb w b c) (hp : c.peers = zAg ps) (hps : ps.length = 9) (hv : v < 9) :
  Calls Tryz.prog 81 #[.pointer (some ⟨b, 0, none⟩), .agg #[.int .i64 kind, .int .i64 (v : Int), .int .i64 to', .int .i64 bal, .int .i64 gen, .int .i64 basis, .int .i64 fl, .int .i64 tp, .int .i64 rd, .string mk, .int .i64 pa, .int .i64 po, .string pt, ls]] w fun e w' =>
   e = .returned (.tuple #[]) ∧ zAb w' b { c with peers := zAg (ps.set v (zAQ (ps[v]'(by omega)) fl tp)) } ∧ Touch (fun k => k = b) w w' := by
 have hbl := h.1.lt
 obtain ⟨p, hpv⟩ : ∃ p, p = ps[v]'(by omega) := ⟨_, rfl⟩
 rw [← hpv]
 have c0 : w.cell? ⟨b, 12 + v * 8, none⟩ = some (.bool p.told) := by rw [hpv]; exact h.peer hp v (by omega) 0 (by omega)
 have c1 : w.cell? ⟨b, 12 + v * 8 + 1, none⟩ = some (.int .i64 p.floor) := by rw [hpv]; exact h.peer hp v (by omega) 1 (by omega)
 have c2 : w.cell? ⟨b, 12 + v * 8 + 2, none⟩ = some (.int .i64 p.top) := by rw [hpv]; exact h.peer hp v (by omega) 2 (by omega)
 have c5 : w.cell? ⟨b, 12 + v * 8 + 5, none⟩ = some (.bool p.whole) := by rw [hpv]; exact h.peer hp v (by omega) 5 (by omega)
 have c7 : w.cell? ⟨b, 12 + v * 8 + 7, none⟩ = some p.pack := by rw [hpv]; exact h.peer hp v (by omega) 7 (by omega)
 have f0 := h.1.free (12 + v * 8)
 have f1 := h.1.free (12 + v * 8 + 1)
 have f2 := h.1.free (12 + v * 8 + 2)
 have f5 := h.1.free (12 + v * 8 + 5)
 have f7 := h.1.free (12 + v * 8 + 7)
 have hv1 : (0 : Int) ≤ (v : Int) := by omega
 have hv2 : (v : Int) < 9 := by omega
 have H := hid h
 have Hp := hid hp
 have Hpv := hid hpv
 clear h hp hpv
 cases ht : p.told with
 | false =>
  rw [ht] at c0
  go_enter Tryz.func81, Tryz.ntmps81
  go_wp2
  go_quiet (fail)
  go_wp2
  go_quiet (fail)
  go_wp2
  go_region
  all_goals go_wp2
  all_goals go_end0
  all_goals
   refine ⟨rfl, ?_, ?_⟩
   ·refine zAb.drew ?_
    refine zHD fl tp ?_ Hp.out (by omega) Hpv.out (Or.inl ht)
    exact (H.out.alloc _).drewN _
   ·refine Touch.drew ?_
    refine zAa ?_ _
    refine zAa ?_ _
    refine zAa ?_ _
    refine zAa ?_ _
    refine zAa ?_ _
    exact ((Touch.refl _ _).alloc _).drewN _
 | true =>
  rw [ht] at c0
  by_cases htp : p.top < tp
  ·go_enter Tryz.func81, Tryz.ntmps81
   go_wp2
   go_quiet (fail)
   go_wp2
   go_quiet (fail)
   go_wp2
   go_region
   all_goals go_wp2
   all_goals go_end0
   all_goals
    refine ⟨rfl, ?_, ?_⟩
    ·refine zAb.drew ?_
     refine zHD fl tp ?_ Hp.out (by omega) Hpv.out (Or.inr htp)
     exact (H.out.alloc _).drewN _
    ·refine Touch.drew ?_
     refine zAa ?_ _
     refine zAa ?_ _
     refine zAa ?_ _
     refine zAa ?_ _
     refine zAa ?_ _
     exact ((Touch.refl _ _).alloc _).drewN _
  ·go_enter Tryz.func81, Tryz.ntmps81
   go_wp2
   go_quiet (fail)
   go_wp2
   go_quiet (fail)
   go_wp2
   go_region
   all_goals go_wp2
   all_goals go_end0
   all_goals
    refine ⟨rfl, ?_, ?_⟩
    ·refine zAb.drew ?_
     refine far_sets2 fl tp ?_ Hp.out (by omega) Hpv.out (by rw [ht]; simp; omega)
     exact (H.out.alloc _).drewN _
    ·refine Touch.drew ?_
     refine zAa ?_ _
     refine zAa ?_ _
     exact ((Touch.refl _ _).alloc _).drewN _
open Go Go.RowKit
set_option linter.unusedVariables false
def cnL (n : Nat) : List UInt8 := if n < 128 then [UInt8.ofNat n] else UInt8.ofNat (n % 128 + 128) :: cnL (n / 128)
termination_by n
decreasing_by omega
theorem zDy (h : n < 128) : cnL n = [UInt8.ofNat n] := by rw [cnL, if_pos h]
theorem zJe (h : ¬ n < 128) : cnL n = UInt8.ofNat (n % 128 + 128) :: cnL (n / 128) := by rw [cnL, if_neg h]
theorem cnL_len : ∀ (k n : Nat), n < 128 ^ (k + 1) → (cnL n).length ≤ k + 1
 | 0, n, h => by rw [zDy (by omega)]; simp
 | k + 1, n, h => by
  by_cases h1 : n < 128
  ·rw [zDy h1]; simp
  ·rw [zJe h1, List.length_cons]
   have := cnL_len k (n / 128) (by
    rw [Nat.pow_succ] at h
    omega)
   omega
theorem zAI (h : n ≤ 4611686018427387903) : (cnL n).length ≤ 9 := cnL_len 8 n (by omega)
def cnT (n : Nat) : ByteArray := ⟨(cnL n).toArray⟩
theorem zDu (h : n ≤ 4611686018427387903) : (cnT n).size ≤ 9 := by
 have := zAI h
 show (cnL n).toArray.size ≤ 9
 simpa using this
theorem low_and (n : Nat) (h : n ≤ 4611686018427387903) : bits .and .i64 (n : Int) 127 = ((n % 128 : Nat) : Int) := by
 have := zIz n 127 (by omega) (by omega)
 rw [show n &&& 127 = n % 128 from Nat.and_two_pow_sub_one_eq_mod n 7] at this
 exact this
theorem low_bits (n : Nat) : bits .or .i64 ((n % 128 : Nat) : Int) 128 = ((n % 128 + 128 : Nat) : Int) := by
 have := i64_join 7 (n % 128) 1 (by omega) (by omega) (by omega)
 exact this
theorem zEG : (Tryz.prog.info? 5).map (fun i => (i.zero, i.size, i.bytes)) = some (some (.int .u8 0), 1, 1) := by kernel_rfl
def u8s (l : List UInt8) : List Value := l.map fun b => Value.int .u8 (b.toNat : Int)
theorem zEq (l : List UInt8) (b : UInt8) : u8s (l ++ [b]) = u8s l ++ [.int .u8 (b.toNat : Int)] := by simp [u8s]
theorem zAK (l : List UInt8) : (u8s l).length = l.length := by simp [u8s]
theorem conv_u8s {l : List UInt8} (h : w.ownsRow base 5 1 v l.length (u8s l)) (h0 : 0 < l.length) :
  (convert 108 9 v).run Tryz.prog w = .ok (.string ⟨l.toArray⟩) w := by
 obtain ⟨g, cap, rfl, _, _, _, _, hc⟩ := zAz h h0
 refine run_convert_bytes_back w 108 9 5 ⟨g, 0, none⟩ cap l Tryz.underlying108 Tryz.underlying5 Tryz.underlying9 ?_
 intro j hj
 rw [addr_add, hc j (by omega)]
 simp [u8s, hj]
theorem u8_of (n : Nat) (h : n < 256) : ((UInt8.ofNat n).toNat : Int) = (n : Int) := by
 rw [UInt8.toNat_ofNat', Nat.mod_eq_of_lt h]
theorem zDa (n : Nat) (w : World) (hn : n ≤ 4611686018427387903) :
  Calls Tryz.prog 67 #[.int .i64 (n : Int)] w fun e w' => e = .returned (.tuple #[.string (cnT n), .int .i64 0]) ∧ Below w.heap.size w w' := by
 have hl9 := zAI hn
 go_enter Tryz.func67, Tryz.ntmps67
 go_wp2
 go_loopw [0, 4] (fun nv bv wr => ∃ (r : Nat) (D : List UInt8), nv = .int .i64 (r : Int) ∧ r ≤ n ∧ D.length ≤ 9 ∧ Hid (D ++ cnL r = cnL n) ∧ Hid (wr.ownsRow w.heap.size 5 1 bv D.length (u8s D)) ∧ Below w.heap.size w wr) (fun nv _ _ => (intOf nv).toNat)
 case atStart => exact ⟨n, [], rfl, Nat.le_refl _, by simp, hid rfl, hid (World.ownsRow_nil _ _ _ _), Below.refl _ _⟩
 case round =>
  obtain ⟨r, D, rfl, hr, hD, Hd, Hown, hbr⟩ := hrel
  have hown := Hown.out
  have hsz := hbr.size
  by_cases h1 : r < 128
  ·have hd := hid (show D ++ [UInt8.ofNat r] = cnL n by rw [← Hd.out, zDy h1])
   have hw := u8_of r (by omega)
   have hcv := fun (w3 : World) (v : Value) (h : w3.ownsRow w.heap.size 5 1 v (D.length + 1) (u8s D ++ [.int .u8 (r : Int)])) => conv_u8s (w := w3) (base := w.heap.size) (v := v) (l := D ++ [UInt8.ofNat r]) (by rw [zEq, hw, List.length_append]; exact h) (by simp)
   have Hcv := hid hcv
   clear hcv hw
   go_wp2_with (at_builtin; refine zAH rfl _ _ 108 rfl w.heap.size 5 1 1 Tryz.underlying108 _ zEG rfl (by decide) _ _ _ rfl hown _ rfl [.int .u8 (r : Int)] rfl rfl (by simp [Value.oneCell']) ?c1 ?c2 ?c3 ?_)
   case c1 => unfold maxLen; omega
   case c2 => omega
   case c3 => exact hsz
   intro v' w3 hown3 hb3
   have hcv := Hcv.out w3 v' hown3
   clear Hcv
   rw [hd.out] at hcv
   go_wp2
   go_ret2
   exact ⟨rfl, hbr.trans hb3⟩
  ·have hbyte := hid (show bits .or .i64 (bits .and .i64 (r : Int) 127) 128 % 256 = ((UInt8.ofNat (r % 128 + 128)).toNat : Int) by
    rw [low_and r (by omega), low_bits, u8_of _ (by omega)]; omega)
   have hd := hid (show (D ++ [UInt8.ofNat (r % 128 + 128)]) ++ cnL (r / 128) = cnL n by rw [← Hd.out, zJe h1, List.append_assoc]; rfl)
   have hl := hid (show D.length + 1 ≤ 9 by
    have := congrArg List.length hd.out
    rw [List.length_append, List.length_append] at this
    simp at this
    omega)
   go_wp2_with (at_builtin; rw [hbyte.out]; refine zAH rfl _ _ 108 rfl w.heap.size 5 1 1 Tryz.underlying108 _ zEG rfl (by decide) _ _ _ rfl hown _ rfl [.int .u8 ((UInt8.ofNat (r % 128 + 128)).toNat : Int)] rfl rfl (by simp [Value.oneCell']) ?c1 ?c2 ?c3 ?_)
   case c1 => unfold maxLen; omega
   case c2 => omega
   case c3 => exact hsz
   intro v' w3 hown3 hb3
   have Hown3 := hid (show w3.ownsRow w.heap.size 5 1 v' (D ++ [UInt8.ofNat (r % 128 + 128)]).length (u8s (D ++ [UInt8.ofNat (r % 128 + 128)])) by rw [zEq, List.length_append]; exact hown3)
   clear hown3
   go_wp2
   go_roundw
   case rel => exact ⟨r / 128, _, by go_num, by omega, by rw [List.length_append]; exact hl.out, hd, Hown3, hbr.trans hb3⟩
   case measure => simp [intOf]; omega
theorem refNum_any (n : Nat) (w : World) (hn : n ≤ 4611686018427387903) :
  Calls Tryz.prog 43 #[.int .i64 (n : Int)] w fun e w' => e = .returned (.tuple #[.string (cnT n), .int .i64 0]) ∧ Below w.heap.size w w' := by
 have hl9 := zAI hn
 go_enter Tryz.func43, Tryz.ntmps43
 go_wp2
 go_loopw [0, 4] (fun nv bv wr => ∃ (r : Nat) (D : List UInt8), nv = .int .i64 (r : Int) ∧ r ≤ n ∧ D.length ≤ 9 ∧ Hid (D ++ cnL r = cnL n) ∧ Hid (wr.ownsRow w.heap.size 5 1 bv D.length (u8s D)) ∧ Below w.heap.size w wr) (fun nv _ _ => (intOf nv).toNat)
 case atStart => exact ⟨n, [], rfl, Nat.le_refl _, by simp, hid rfl, hid (World.ownsRow_nil _ _ _ _), Below.refl _ _⟩
 case round =>
  obtain ⟨r, D, rfl, hr, hD, Hd, Hown, hbr⟩ := hrel
  have hown := Hown.out
  have hsz := hbr.size
  by_cases h1 : r < 128
  ·have hd := hid (show D ++ [UInt8.ofNat r] = cnL n by rw [← Hd.out, zDy h1])
   have hw := u8_of r (by omega)
   have hcv := fun (w3 : World) (v : Value) (h : w3.ownsRow w.heap.size 5 1 v (D.length + 1) (u8s D ++ [.int .u8 (r : Int)])) => conv_u8s (w := w3) (base := w.heap.size) (v := v) (l := D ++ [UInt8.ofNat r]) (by rw [zEq, hw, List.length_append]; exact h) (by simp)
   have Hcv := hid hcv
   clear hcv hw
   go_wp2_with (at_builtin; refine zAH rfl _ _ 108 rfl w.heap.size 5 1 1 Tryz.underlying108 _ zEG rfl (by decide) _ _ _ rfl hown _ rfl [.int .u8 (r : Int)] rfl rfl (by simp [Value.oneCell']) ?c1 ?c2 ?c3 ?_)
   case c1 => unfold maxLen; omega
   case c2 => omega
   case c3 => exact hsz
   intro v' w3 hown3 hb3
   have hcv := Hcv.out w3 v' hown3
   clear Hcv
   rw [hd.out] at hcv
   go_wp2
   go_ret2
   exact ⟨rfl, hbr.trans hb3⟩
  ·have hbyte := hid (show (r : Int) % 128 + 128 = ((UInt8.ofNat (r % 128 + 128)).toNat : Int) by
    rw [u8_of _ (by omega)]; omega)
   have hd := hid (show (D ++ [UInt8.ofNat (r % 128 + 128)]) ++ cnL (r / 128) = cnL n by rw [← Hd.out, zJe h1, List.append_assoc]; rfl)
   have hl := hid (show D.length + 1 ≤ 9 by
    have := congrArg List.length hd.out
    rw [List.length_append, List.length_append] at this
    simp at this
    omega)
   go_wp2_with (at_builtin; rw [hbyte.out]; refine zAH rfl _ _ 108 rfl w.heap.size 5 1 1 Tryz.underlying108 _ zEG rfl (by decide) _ _ _ rfl hown _ rfl [.int .u8 ((UInt8.ofNat (r % 128 + 128)).toNat : Int)] rfl rfl (by simp [Value.oneCell']) ?c1 ?c2 ?c3 ?_)
   case c1 => unfold maxLen; omega
   case c2 => omega
   case c3 => exact hsz
   intro v' w3 hown3 hb3
   have Hown3 := hid (show w3.ownsRow w.heap.size 5 1 v' (D ++ [UInt8.ofNat (r % 128 + 128)]).length (u8s (D ++ [UInt8.ofNat (r % 128 + 128)])) by rw [zEq, List.length_append]; exact hown3)
   clear hown3
   go_wp2
   go_roundw
   case rel => exact ⟨r / 128, _, by go_num, by omega, by rw [List.length_append]; exact hl.out, hd, Hown3, hbr.trans hb3⟩
   case measure => simp [intOf]; omega
theorem zCF (n : Nat) (w : World) (hn : n ≤ 4611686018427387903) :
  Calls Tryz.prog 23 #[.int .i64 (n : Int)] w fun e w' => e = .returned (.string (cnT n)) ∧ Below w.heap.size w w' := by
 have H := hid (refNum_any n w hn)
 go_enter Tryz.func23, Tryz.ntmps23
 go_wp2_with fail
 refine H.out.mono ?_
 rintro e w1 ⟨rfl, hb⟩
 go_wp2_with fail
 go_ret
 exact ⟨rfl, hb⟩
theorem zJx (s : ByteArray) (w : World) (hs : s.size ≤ 1048576) :
  Calls Tryz.prog 24 #[.string s] w fun e w' => e = .returned (.tuple #[.string (cnT s.size ++ s), .int .i64 0]) ∧ Below w.heap.size w w' := by
 have H := hid (zCF s.size w (by omega))
 have hz := zDu (n := s.size) (by omega)
 go_enter Tryz.func24, Tryz.ntmps24
 go_wp2_with fail
 refine H.out.mono ?_
 rintro e w1 ⟨rfl, hb⟩
 go_wp2_with fail
 go_ret2
 exact ⟨rfl, hb⟩
structure Rr where
 l : List UInt8
 e : Int
def rnum : List UInt8 → Nat → Nat → Nat × Rr
 | [], _, _ => (0, ⟨[], 3⟩)
 | c :: r, i, acc =>
  if (i = 8 ∧ 63 < c.toNat) ∨ (0 < i ∧ c.toNat = 0) then (0, ⟨r, 5⟩)
  else if c.toNat < 128 then (acc + c.toNat % 128 * 128 ^ i, ⟨r, 0⟩)
  else rnum r (i + 1) (acc + c.toNat % 128 * 128 ^ i)
def Rr.num (R : Rr) : Nat × Rr := if R.e = 0 then rnum R.l 0 0 else (0, R)
def Rr.raw (R : Rr) (n : Nat) : List UInt8 × Rr := if R.e = 0 then (if R.l.length < n then ([], ⟨R.l, 3⟩) else (R.l.take n, ⟨R.l.drop n, 0⟩)) else ([], R)
def Rr.count (R : Rr) (most : Nat) : Nat × Rr := if R.num.2.e = 0 ∧ most < R.num.1 then (0, ⟨R.num.2.l, 4⟩) else R.num
end Go.Proofs.YtaemlplcjjbamaaGreatDoor
