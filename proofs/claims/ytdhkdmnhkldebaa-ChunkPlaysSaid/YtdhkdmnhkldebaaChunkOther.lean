/- The walks of ChunkOther and ChunkLong. No condition. -/
import Derived.Test.YtdhkdmnhkldebaaPut
import Derived.Test.YtdhkdmnhkldebaaChunkMany
namespace Go.Proofs.Ytdhkdmnhkldebaa
open Go.RowKit

theorem put_known (b gp gh : Nat) (m m' : List (Option ByteArray)) (at' of' : Int) (t : ByteArray) (r : Nat) (w : World) (h : BoxAt w b gp gh m) (hm : m.length ≤ 4096) (hsz : size m ≤ 524288) (ht : t.size ≤ maxLen) (hv : putOf m at' of' t = (m', r)) :
    Calls Try.prog 15 #[.pointer (some ⟨b, 0, none⟩), .agg #[.int .i64 at', .int .i64 of', .string t]] w fun e w' => e = .returned (.int .i64 (r : Nat)) ∧ Hid (BoxAt w' b gp gh m') ∧ Touch (InBox b gp gh) w w' := by
  refine (put_any b gp gh m at' of' t w h hm hsz ht).mono ?_
  rintro e w' ⟨he, hb, ht⟩
  rw [hv] at he hb
  exact ⟨he, hb, ht⟩

theorem new_known (n : Nat) (w : World) (h1 : 1 ≤ n) (h2 : n ≤ 4096) :
    Calls Try.prog 14 #[.int .i64 n] w fun e w' => ∃ b gp gh, e = .returned (.tuple #[.pointer (some ⟨b, 0, none⟩), .int .i64 0]) ∧ Hid (BoxAt w' b gp gh (List.replicate n none)) ∧ Hid (∀ k, InBox b gp gh k → w.heap.size ≤ k) ∧ Below w.heap.size w w' := by
  refine (new_any n w h1 h2).mono ?_
  rintro e w' ⟨b, gp, gh, he, hbox, hb1, hb2, hb3, hbel⟩
  refine ⟨b, gp, gh, he, hbox, ?_, hbel⟩
  intro k hk
  rcases hk with rfl | rfl | rfl <;> assumption

theorem touch_step {w wx w1 : World} {S : Nat → Prop} (h : Below w.heap.size w wx) (hS : ∀ k, S k → w.heap.size ≤ k) (ht : Touch S wx w1) : Below w.heap.size w w1 :=
  h.trans (ht.below h.size (fun k hk hs => by have := hS k hs; omega))

theorem putOf_new {m : List (Option ByteArray)} {i : Nat} (hi : i < m.length) (hu : m[i] = none) (t : ByteArray) (hl : size m + t.size ≤ 524288) : putOf m i m.length t = (m.set i (some t), 0) := by
  rw [putOf, if_neg (by simp), if_neg (by omega), Int.toNat_natCast, List.getD, List.getElem?_eq_getElem hi, hu]
  simp only [Option.getD_some]
  rw [if_neg (by omega)]
theorem putOf_long {m : List (Option ByteArray)} {i : Nat} (hi : i < m.length) (hu : m[i] = none) (t : ByteArray) (hl : 524288 < size m + t.size) : putOf m i m.length t = (m, 4) := by
  rw [putOf, if_neg (by simp), if_neg (by omega), Int.toNat_natCast, List.getD, List.getElem?_eq_getElem hi, hu]
  simp only [Option.getD_some]
  rw [if_pos hl]
theorem putOf_old {m : List (Option ByteArray)} {i : Nat} (hi : i < m.length) {u : ByteArray} (hu : m[i] = some u) (t : ByteArray) : putOf m i m.length t = (m, if u = t then 0 else 6) := by
  rw [putOf, if_neg (by simp), if_neg (by omega), Int.toNat_natCast, List.getD, List.getElem?_eq_getElem hi, hu]
  simp only [Option.getD_some]
  split <;> rfl

set_option maxRecDepth 100000 in
set_option maxHeartbeats 1000000 in
theorem chunkOther_walk (n at' : Int) (s t : ByteArray) (w : World) (_h1 : (Lit.int .i64 n).wf = true) (_h2 : (Lit.int .i64 at').wf = true) (hs : s.size ≤ maxLen) (ht : t.size ≤ maxLen) :
    Calls Try.prog 5 #[.int .i64 n, .int .i64 at', .string s, .string t] w fun e w' => e = .returned (.bool true) ∧ Below w.heap.size w w' := by
  unfold maxLen at hs ht
  by_cases h : n < 1 ∨ 60 < n ∨ at' < 0 ∨ n ≤ at' ∨ (300 : Int) < s.size ∨ (300 : Int) < t.size
  · have hd : (decide (n < 1) || decide (60 < n) || decide (at' < 0) || decide (n ≤ at') || decide ((300 : Int) < s.size) || decide ((300 : Int) < t.size)) = true := by
      simp only [Bool.or_eq_true, decide_eq_true_eq]; omega
    clear h
    go_enter Try.func5, Try.ntmps5
    go_wp2_with (go_at_call 13; refine (awake_any _).mono ?_; rintro e w' ⟨rfl, hb⟩)
    all_goals (go_ret; exact ⟨rfl, hb⟩)
  · obtain ⟨n, rfl⟩ := Int.eq_ofNat_of_zero_le (show 0 ≤ n by omega)
    obtain ⟨i, rfl⟩ := Int.eq_ofNat_of_zero_le (show 0 ≤ at' by omega)
    have hn1 : 1 ≤ n := by omega
    have hn2 : n ≤ 60 := by omega
    have hin : i < n := by omega
    have hs3 : s.size ≤ 300 := by omega
    have ht3 : t.size ≤ 300 := by omega
    have hl0 : (List.replicate n (none : Option ByteArray)).length = n := List.length_replicate
    have hp1 : putOf (List.replicate n none) i n s = ((List.replicate n none).set i (some s), 0) := by
      have := putOf_new (m := List.replicate n none) (i := i) (by rw [hl0]; exact hin) (by simp) s (by rw [size_new]; omega)
      rw [hl0] at this
      exact this
    obtain ⟨m, hm⟩ : ∃ m : List (Option ByteArray), m = (List.replicate n none).set i (some s) := ⟨_, rfl⟩
    have hml : m.length = n := by rw [hm]; simp
    have hmi : m[i]? = some (some s) := by rw [hm]; simp [hin]
    have hmi2 : m[i]'(by rw [hml]; exact hin) = some s := (List.getElem?_eq_some_iff.1 hmi).2
    have hms : size m = s.size := by rw [hm, size_set _ _ _ (by rw [hl0]; exact hin) (by simp), size_new]; omega
    have hmleft : left m = n - 1 := by have := left_set (List.replicate n none) i s (by rw [hl0]; exact hin) (by simp); rw [left_new, ← hm] at this; omega
    have hp2 : putOf m i n t = (m, if s = t then 0 else 6) := by
      have := putOf_old (m := m) (i := i) (by rw [hml]; exact hin) hmi2 t
      rw [hml] at this
      exact this
    have hp3 : putOf m i n s = (m, 0) := by
      have := putOf_old (m := m) (i := i) (by rw [hml]; exact hin) hmi2 s
      rw [hml, if_pos rfl] at this
      exact this
    rw [← hm] at hp1
    have hle : ((left m : Nat) : Int) = (n : Int) - 1 := by omega
    have Hp1 := Lib.hid hp1
    have Hp3 := Lib.hid hp3
    have Hml := Lib.hid hml
    have Hms := Lib.hid hms
    have Hle := Lib.hid hle
    have hwant : ((s.toList == t.toList) = true ∧ putOf m i n t = (m, 0)) ∨ ((s.toList == t.toList) = false ∧ putOf m i n t = (m, 6)) := by
      by_cases hst : s = t
      · left; exact ⟨by rw [str_eq, decide_eq_true hst], by rw [hp2, if_pos hst]⟩
      · right; exact ⟨by rw [str_eq, decide_eq_false hst], by rw [hp2, if_neg hst]⟩
    clear h hp1 hp2 hp3 hm hml hmi hmi2 hms hmleft hl0 hle
    rcases hwant with ⟨hst, hq⟩ | ⟨hst, hq⟩
    all_goals
      have Hq := Lib.hid hq
      clear hq
      go_enter Try.func5, Try.ntmps5
      go_wp2_with fail
      refine (new_known n _ hn1 (by omega)).mono ?_
      rintro e w1 ⟨b, gp, gh, rfl, hbox1, hfresh, hb1⟩
      go_wp2_with fail
      refine (put_known b gp gh _ m _ _ s 0 _ hbox1.out (by rw [List.length_replicate]; omega) (by rw [size_new]; omega) (by unfold maxLen; omega) Hp1.out).mono ?_
      rintro e w2 ⟨rfl, hbox2, ht2⟩
      have hb2 := touch_step hb1 hfresh.out ht2
      go_wp2_with fail
      refine (put_known b gp gh m m _ _ t _ _ hbox2.out (by rw [Hml.out]; omega) (by rw [Hms.out]; omega) (by unfold maxLen; omega) Hq.out).mono ?_
      rintro e w3 ⟨rfl, hbox3, ht3⟩
      have hb3 := touch_step hb2 hfresh.out ht3
      go_wp2_with fail
      refine (put_known b gp gh m m _ _ s 0 _ hbox3.out (by rw [Hml.out]; omega) (by rw [Hms.out]; omega) (by unfold maxLen; omega) Hp3.out).mono ?_
      rintro e w4 ⟨rfl, hbox4, ht4⟩
      have hb4 := touch_step hb3 hfresh.out ht4
      go_wp2_with fail
      refine (leftOf_any b gp gh m _ hbox4.out).mono ?_
      rintro e w5 ⟨rfl, rfl⟩
      rw [Hle.out]
      go_wp2_with fail
      refine (awake_any _).mono ?_
      rintro e w6 ⟨rfl, hb6⟩
      go_wp2_with fail
      go_ret
      exact ⟨rfl, below_step hb4 hb6⟩
end Go.Proofs.Ytdhkdmnhkldebaa
