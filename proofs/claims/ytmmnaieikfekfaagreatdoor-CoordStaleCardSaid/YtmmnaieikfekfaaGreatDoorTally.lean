/- The walks of plan.New and a tally's Add, Has, Count, Won. No condition. -/
import Derived.Test.YtmmnaieikfekfaaGreatDoorMajor
import Derived.Test.YtmmnaieikfekfaaGreatDoorHeap
import Derived.Lib.MinMax
namespace Go.Proofs.YtmmnaieikfekfaaGreatDoor
open Go.RowKit

def TallyAt (w : World) (b : Nat) (o : Nat) (m : List Bool) : Prop := Blk w b (Value.int .i64 (o : Int) :: m.map Value.bool) 114 ∧ m.length = 9 ∧ o ≤ 9
def clip (n : Int) : Nat := if n < 0 then 0 else if 9 < n then 9 else n.toNat
theorem clip_le (n : Int) : clip n ≤ 9 := by unfold clip; split; omega; split; omega; omega

theorem TallyAt.of {w : World} {b o : Nat} {m : List Bool} (h : TallyAt w b o m) : w.cell? ⟨b, 0, none⟩ = some (.int .i64 (o : Int)) := by
  rw [h.1.cell]; rfl
theorem TallyAt.has {w : World} {b o : Nat} {m : List Bool} (h : TallyAt w b o m) (i : Nat) (hi : i < 9) : w.cell? ⟨b, 1 + i, none⟩ = some (.bool (m.getD i false)) := by
  have hm := h.2.1
  rw [h.1.cell, Nat.add_comm, List.getElem?_cons_succ, List.getElem?_map, List.getD, List.getElem?_eq_getElem (by omega)]
  rfl

set_option maxHeartbeats 1000000 in
theorem newTally_any (n : Int) (w : World) :
    Calls Tryz.prog 31 #[.int .i64 n] w fun e w' => ∃ b, e = .returned (.pointer (some ⟨b, 0, none⟩)) ∧ w.heap.size ≤ b ∧ TallyAt w' b (clip n) (List.replicate 9 false) ∧ Below w.heap.size w w' := by
  go_enter Tryz.func31, Tryz.ntmps31
  have e1 : min (max n 0) 9 = (clip n : Int) := by unfold clip; split; omega; split; omega; omega
  go_wp2
  go_ret
  exact ⟨_, rfl, Nat.le_refl _, ⟨Blk.new w (.int .i64 (clip n : Int) :: (List.replicate 9 false).map Value.bool) 114, rfl, clip_le n⟩, (Below.refl _ _).alloc (Nat.le_refl _) _⟩
theorem has_any (b o : Nat) (m : List Bool) (i : Int) (w : World) (h : TallyAt w b o m) :
    Calls Tryz.prog 64 #[.pointer (some ⟨b, 0, none⟩), .int .i64 i] w fun e w' => e = .returned (.bool (decide (0 ≤ i) && decide (i < o) && m.getD i.toNat false)) ∧ w = w' := by
  have hof := h.of
  have ho := h.2.2
  by_cases hi : 0 ≤ i ∧ i < o
  · obtain ⟨k, rfl⟩ := Int.eq_ofNat_of_zero_le hi.1
    have hk : k < o := by omega
    have hc := h.has k (by omega)
    have e1 : (decide ((0 : Int) ≤ (k : Int)) && decide ((k : Int) < (o : Int)) && m.getD (k : Int).toNat false) = m.getD k false := by simp; omega
    rw [e1]
    generalize m.getD k false = r at hc ⊢
    clear h hi e1
    go_enter Tryz.func64, Tryz.ntmps64
    go_wp2
    go_ret
    exact ⟨rfl, rfl⟩
  · have e1 : (decide (0 ≤ i) && decide (i < (o : Int)) && m.getD i.toNat false) = false := by
      have : (decide (0 ≤ i) && decide (i < (o : Int))) = false := by simp; omega
      rw [this]; rfl
    rw [e1]
    clear h e1
    by_cases h0 : 0 ≤ i
    · have h1 : ¬ i < o := fun hx => hi ⟨h0, hx⟩
      clear hi
      go_enter Tryz.func64, Tryz.ntmps64
      go_wp2
      go_ret
      exact ⟨rfl, rfl⟩
    · clear hi
      go_enter Tryz.func64, Tryz.ntmps64
      go_wp2
      go_ret
      exact ⟨rfl, rfl⟩

def isOne (i : Int) (o : Nat) : Bool := decide (0 ≤ i) && decide (i < (o : Int))
def addTo (m : List Bool) (i : Int) (o : Nat) : List Bool := if isOne i o = true then m.set i.toNat true else m
theorem TallyAt.set {w : World} {b o : Nat} {m : List Bool} (h : TallyAt w b o m) (k : Nat) : TallyAt (w.setCell ⟨b, 1 + k, none⟩ (.bool true)) b o (m.set k true) := by
  refine ⟨?_, by rw [List.length_set]; exact h.2.1, h.2.2⟩
  have hb := h.1.set (1 + k) (.bool true)
  rw [Nat.add_comm 1 k, List.set_cons_succ, ← List.map_set] at hb
  rw [Nat.add_comm 1 k]
  exact hb
theorem add_any (b o : Nat) (m : List Bool) (i : Int) (w : World) (h : TallyAt w b o m) :
    Calls Tryz.prog 49 #[.pointer (some ⟨b, 0, none⟩), .int .i64 i] w fun e w' => e = .returned (.bool (isOne i o)) ∧ TallyAt w' b o (addTo m i o) ∧ Touch (fun k => k = b) w w' := by
  have hof := h.of
  have ho := h.2.2
  have H := Lib.hid h
  by_cases hi : isOne i o = true
  · have e2 : addTo m i o = m.set i.toNat true := by unfold addTo; rw [if_pos hi]
    rw [e2, hi]
    have hi2 : 0 ≤ i ∧ i < o := by unfold isOne at hi; simpa using hi
    obtain ⟨k, rfl⟩ := Int.eq_ofNat_of_zero_le hi2.1
    have hk : k < o := by omega
    have hc := h.has k (by omega)
    have hf := h.1.free (1 + k)
    rw [Int.toNat_natCast]
    clear h hi hi2 e2
    go_enter Tryz.func49, Tryz.ntmps49
    go_wp2
    go_ret
    exact ⟨rfl, H.out.set k, (Touch.refl (fun k => k = b) w).set (p := ⟨b, 1 + k, none⟩) (Or.inl rfl) _⟩
  · have e2 : addTo m i o = m := by unfold addTo; rw [if_neg hi]
    have hi' : isOne i o = false := by simpa using hi
    rw [e2, hi']
    have hd : ¬ (0 ≤ i ∧ i < o) := by unfold isOne at hi; simpa using hi
    clear h e2 hi hi'
    by_cases h0 : 0 ≤ i
    · have h1 : ¬ i < o := fun hx => hd ⟨h0, hx⟩
      clear hd
      go_enter Tryz.func49, Tryz.ntmps49
      go_wp2
      go_ret
      exact ⟨rfl, H.out, Touch.refl _ _⟩
    · clear hd
      go_enter Tryz.func49, Tryz.ntmps49
      go_wp2
      go_ret
      exact ⟨rfl, H.out, Touch.refl _ _⟩

def cntTo (m : List Bool) (o k : Nat) : Nat := (List.range k).countP fun i => decide (i < o) && m.getD i false
def cnt (m : List Bool) (o : Nat) : Nat := cntTo m o 9
theorem cntTo_le (m : List Bool) (o k : Nat) : cntTo m o k ≤ k := by
  have := List.countP_le_length (p := fun i => decide (i < o) && m.getD i false) (l := List.range k)
  rw [List.length_range] at this
  exact this
theorem cntTo_snoc (m : List Bool) (o k : Nat) : cntTo m o (k + 1) = cntTo m o k + if (decide (0 ≤ (k : Int)) && decide ((k : Int) < (o : Int)) && m.getD (k : Int).toNat false) = true then 1 else 0 := by
  unfold cntTo
  rw [List.range_succ, List.countP_append, List.countP_cons, List.countP_nil, Nat.zero_add]
  congr 2
  rw [Bool.eq_iff_iff]
  simp
theorem count_any (b o : Nat) (m : List Bool) (w : World) (h : TallyAt w b o m) :
    Calls Tryz.prog 86 #[.pointer (some ⟨b, 0, none⟩)] w fun e w' => e = .returned (.int .i64 (cnt m o : Int)) ∧ w = w' := by
  have H := Lib.hid h
  clear h
  go_enter Tryz.func86, Tryz.ntmps86
  go_wp2
  go_loop [3, 5] (fun n i => ∃ k x : Nat, k ≤ 9 ∧ i = .int .i64 k ∧ n = .int .i64 x ∧ x ≤ k ∧ Hid (x = cntTo m o k)) (fun _ i => 9 - (intOf i).toNat)
  case atStart => exact ⟨0, 0, Nat.zero_le _, rfl, rfl, Nat.zero_le _, Lib.hid rfl⟩
  case round =>
    obtain ⟨k, x, hk, rfl, rfl, hxk, Hx⟩ := hrel
    by_cases hlt : k < 9
    · have Hs := Lib.hid (cntTo_snoc m o k)
      go_wp2_with fail
      refine (has_any b o m k _ H.out).mono ?_
      rintro e wx ⟨rfl, rfl⟩
      generalize (decide (0 ≤ (k : Int)) && decide ((k : Int) < (o : Int)) && m.getD (k : Int).toNat false) = t at Hs ⊢
      cases t
      · go_wp2_with fail
        go_round
        case rel => exact ⟨k + 1, x, by omega, by go_num, rfl, by omega, Lib.hid (by rw [Hs.out, ← Hx.out]; simp)⟩
        case measure => simp [intOf]; omega
      · go_wp2_with fail
        go_round
        case rel => exact ⟨k + 1, x + 1, by omega, by go_num, by go_num, by omega, Lib.hid (by rw [Hs.out, ← Hx.out]; simp)⟩
        case measure => simp [intOf]; omega
    · have hk' : k = 9 := by omega
      subst hk'
      go_wp2
      go_ret
      exact ⟨ret_int (by rw [Hx.out]; rfl), rfl⟩

def wonT (m : List Bool) (o : Nat) : Bool := decide (0 < o) && decide (o < 2 * cnt m o)
theorem TallyAt.drewN {w : World} {b o : Nat} {m : List Bool} (h : TallyAt w b o m) (n : Nat) : TallyAt (w.drewN n) b o m := h
theorem won_any (b o : Nat) (m : List Bool) (w : World) (h : TallyAt w b o m) :
    Calls Tryz.prog 74 #[.pointer (some ⟨b, 0, none⟩)] w fun e w' => e = .returned (.bool (wonT m o)) ∧ ∃ n, w' = w.drewN n := by
  have hof := h.of
  have ho := h.2.2
  have H := Lib.hid h
  clear h
  by_cases h0 : o = 0
  · subst h0
    have e1 : wonT m 0 = false := rfl
    rw [e1]
    go_enter Tryz.func74, Tryz.ntmps74
    go_wp2
    go_quiet (fail)
    go_wp2
    go_ret
    exact ⟨rfl, _, rfl⟩
  · have hd : 0 < o := by omega
    have hd2 : decide (0 < o) = true := by simp; omega
    have e1 : wonT m o = decide (major o ≤ cnt m o) := by
      unfold wonT major
      rw [Bool.eq_iff_iff]
      simp
      omega
    rw [e1]
    clear e1
    go_enter Tryz.func74, Tryz.ntmps74
    go_wp2
    go_quiet (first | (go_at_call 86; first | exact quiet_left (count_any b o m _ (H.out.drewN _)) | exact quiet_add_left (count_any b o m _ (H.out.drewN _))) | (go_at_call 87; first | exact quiet_left (majority_any o _ (by omega)) | exact quiet_add_left (majority_any o _ (by omega))))
    go_wp2
    go_ret
    exact ⟨rfl, _, rfl⟩
end Go.Proofs.YtmmnaieikfekfaaGreatDoor
