/- The document's box: Put. Conditions: sizes. -/
import Derived.Test.YtdhkdmnhkldebaaRefBox
namespace Go.Proofs.Ytdhkdmnhkldebaa
open Go.RowKit
set_option linter.unusedVariables false

def RefPutSays (q gl : Nat) (m : List (Option ByteArray)) (at' of' : Int) (t : ByteArray) (w : World) (e : Ending) (w' : World) : Prop :=
  e = .returned (.int .i64 ((putOf m at' of' t).2 : Nat)) ∧ RefAt w' q gl (putOf m at' of' t).1 ∧ Touch (fun k => k = gl) w w'
theorem refPutSays_same {q gl : Nat} {m : List (Option ByteArray)} {at' of' : Int} {t : ByteArray} {w w' : World} {e : Nat} (hv : putOf m at' of' t = (m, e)) (h : RefAt w q gl m) (hb : Below w.heap.size w w') :
    RefPutSays q gl m at' of' t w (.returned (.int .i64 (e : Int))) w' := by
  refine ⟨by rw [hv], ?_, Touch.of_below hb⟩
  rw [hv]; exact h.below hb

set_option maxRecDepth 100000 in
set_option maxHeartbeats 1000000 in
theorem refPut_arg (q gl : Nat) (m : List (Option ByteArray)) (at' of' : Int) (t : ByteArray) (w : World) (h : RefAt w q gl m) (ho : of' ≠ m.length) :
    Calls Try.prog 25 #[.pointer (some ⟨q, 0, none⟩), .agg #[.int .i64 at', .int .i64 of', .string t]] w (RefPutSays q gl m at' of' t w) := by
  have hv := Lib.hid (show putOf m at' of' t = (m, 1) by rw [putOf, if_pos ho])
  have hb := h.1.lt
  have c0 : w.cell? ⟨q, 0, none⟩ = some (.slice (some ⟨gl, 0, none⟩) m.length m.length) := h.1.cell 0
  have hne : (of' != (m.length : Int)) = true := by rw [bne_iff_ne]; exact ho
  have H := Lib.hid h
  clear h ho
  go_enter Try.func25, Try.ntmps25
  go_wp2
  go_quiet (fail)
  go_wp2
  go_ret
  exact refPutSays_same (e := 1) hv.out H.out (below_drewN ((Below.refl _ _).alloc (Nat.le_refl _) _) _)
set_option maxRecDepth 100000 in
set_option maxHeartbeats 1000000 in
theorem refPut_range (q gl : Nat) (m : List (Option ByteArray)) (at' : Int) (t : ByteArray) (w : World) (h : RefAt w q gl m) (ha : at' < 0 ∨ (m.length : Int) ≤ at') :
    Calls Try.prog 25 #[.pointer (some ⟨q, 0, none⟩), .agg #[.int .i64 at', .int .i64 (m.length : Int), .string t]] w (RefPutSays q gl m at' m.length t w) := by
  have hv := Lib.hid (show putOf m at' m.length t = (m, 2) by rw [putOf, if_neg (by simp), if_pos ha])
  have hb := h.1.lt
  have c0 : w.cell? ⟨q, 0, none⟩ = some (.slice (some ⟨gl, 0, none⟩) m.length m.length) := h.1.cell 0
  have hne : ((m.length : Int) != (m.length : Int)) = false := by simp
  have H := Lib.hid h
  clear h
  by_cases h0 : at' < 0
  · clear ha
    go_enter Try.func25, Try.ntmps25
    go_wp2
    go_quiet (fail)
    go_wp2
    go_quiet (fail)
    go_wp2
    go_ret
    exact refPutSays_same (e := 2) hv.out H.out (by repeat (first | exact (Below.refl _ _).alloc (Nat.le_refl _) _ | refine below_drewN ?_ _))
  · have h1 : (m.length : Int) ≤ at' := by omega
    have h2 : ¬ (at' < 0) := h0
    have hd0 : decide (at' < 0) = false := decide_eq_false h0
    clear ha
    go_enter Try.func25, Try.ntmps25
    go_wp2
    go_quiet (fail)
    go_wp2
    go_quiet (fail)
    go_wp2
    go_ret
    exact refPutSays_same (e := 2) hv.out H.out (by repeat (first | exact (Below.refl _ _).alloc (Nat.le_refl _) _ | refine below_drewN ?_ _))
set_option maxRecDepth 100000 in
set_option maxHeartbeats 1000000 in
theorem refPut_there (q gl : Nat) (m : List (Option ByteArray)) (i : Nat) (u t : ByteArray) (w : World) (h : RefAt w q gl m) (hi : i < m.length) (hu : m[i] = some u) :
    Calls Try.prog 25 #[.pointer (some ⟨q, 0, none⟩), .agg #[.int .i64 (i : Int), .int .i64 (m.length : Int), .string t]] w (RefPutSays q gl m i m.length t w) := by
  have hv0 : putOf m i m.length t = (m, if u = t then 0 else 6) := by
    rw [putOf, if_neg (by simp), if_neg (by omega), Int.toNat_natCast, List.getD, List.getElem?_eq_getElem hi, hu]
    simp only [Option.getD_some]
    split <;> rfl
  have hb := h.1.lt
  have hgl := h.2.lt
  have c0 : w.cell? ⟨q, 0, none⟩ = some (.slice (some ⟨gl, 0, none⟩) m.length m.length) := h.1.cell 0
  obtain ⟨d1, d2⟩ := h.cells i hi
  rw [hu] at d1 d2
  replace d1 : w.cell? ⟨gl, i * 2, none⟩ = some (.bool true) := d1
  replace d2 : w.cell? ⟨gl, i * 2 + 1, none⟩ = some (.string u) := d2
  have hne : ((m.length : Int) != (m.length : Int)) = false := by simp
  have hi1 : (i : Int) < (m.length : Int) := by omega
  have hi0 : ¬ ((i : Int) < 0) := by omega
  have hd0 : decide ((i : Int) < 0) = false := decide_eq_false hi0
  have hd1 : decide ((m.length : Int) ≤ (i : Int)) = false := decide_eq_false (by omega)
  have H := Lib.hid h
  clear h hu
  by_cases hut : u = t
  · have hv := Lib.hid (show putOf m i m.length t = (m, 0) by rw [hv0, if_pos hut])
    have hs : (u.toList == t.toList) = true := by rw [str_eq, decide_eq_true hut]
    have hs2 : (u.toList != t.toList) = false := by rw [bne, hs]; rfl
    clear hv0 hut
    go_enter Try.func25, Try.ntmps25
    go_wp2
    go_quiet (fail)
    go_wp2
    go_quiet (fail)
    go_wp2
    go_quiet (fail)
    go_wp2
    go_quiet (fail)
    go_wp2
    go_ret
    exact refPutSays_same (e := 0) hv.out H.out (by repeat (first | exact (Below.refl _ _).alloc (Nat.le_refl _) _ | refine below_drewN ?_ _))
  · have hv := Lib.hid (show putOf m i m.length t = (m, 6) by rw [hv0, if_neg hut])
    have hs : (u.toList == t.toList) = false := by rw [str_eq, decide_eq_false hut]
    have hs2 : (u.toList != t.toList) = true := by rw [bne, hs]; rfl
    clear hv0 hut
    go_enter Try.func25, Try.ntmps25
    go_wp2
    go_quiet (fail)
    go_wp2
    go_quiet (fail)
    go_wp2
    go_quiet (fail)
    go_wp2
    go_quiet (fail)
    go_wp2
    go_ret
    exact refPutSays_same (e := 6) hv.out H.out (by repeat (first | exact (Below.refl _ _).alloc (Nat.le_refl _) _ | refine below_drewN ?_ _))
set_option maxRecDepth 100000 in
set_option maxHeartbeats 1000000 in
theorem refPut_free (q gl : Nat) (m : List (Option ByteArray)) (i : Nat) (t : ByteArray) (w : World) (h : RefAt w q gl m) (hi : i < m.length) (hu : m[i] = none) (hm : m.length ≤ 4096) (hs : size m ≤ 524288) (ht : t.size ≤ 1000000) :
    Calls Try.prog 25 #[.pointer (some ⟨q, 0, none⟩), .agg #[.int .i64 (i : Int), .int .i64 (m.length : Int), .string t]] w (RefPutSays q gl m i m.length t w) := by
  have hv0 : putOf m i m.length t = if 524288 < size m + t.size then (m, 4) else (m.set i (some t), 0) := by
    rw [putOf, if_neg (by simp), if_neg (by omega), Int.toNat_natCast, List.getD, List.getElem?_eq_getElem hi, hu]
    rfl
  have hb := h.1.lt
  have hgl := h.2.lt
  have hqg : q ≠ gl := h.1.ne h.2 (by decide)
  have c0 : w.cell? ⟨q, 0, none⟩ = some (.slice (some ⟨gl, 0, none⟩) m.length m.length) := h.1.cell 0
  obtain ⟨d1, d2⟩ := h.cells i hi
  rw [hu] at d1
  replace d1 : w.cell? ⟨gl, i * 2, none⟩ = some (.bool false) := d1
  have hne : ((m.length : Int) != (m.length : Int)) = false := by simp
  have hi1 : (i : Int) < (m.length : Int) := by omega
  have hi0 : ¬ ((i : Int) < 0) := by omega
  have hd0 : decide ((i : Int) < 0) = false := decide_eq_false hi0
  have hd1 : decide ((m.length : Int) ≤ (i : Int)) = false := decide_eq_false (by omega)
  have H := Lib.hid h
  clear h hu d2
  go_enter Try.func25, Try.ntmps25
  go_wp2
  go_quiet (fail)
  go_wp2
  go_quiet (fail)
  go_wp2
  go_quiet (fail)
  go_upto_region 9 with (fail)
  generalize hw1 : (((w.alloc (Obj.cells #[.int .i64 (i : Int), .int .i64 (m.length : Int), .string t] 36)).drewN _).drewN _).drewN _ = w1
  have H1 : RefAt w1 q gl m := by rw [← hw1]; exact ⟨((((H.out.1.alloc _).drewN _).drewN _).drewN _), ((((H.out.2.alloc _).drewN _).drewN _).drewN _)⟩
  have P1 : Blk w1 w.heap.size [.int .i64 (i : Int), .int .i64 (m.length : Int), .string t] 36 := by rw [← hw1]; exact ((((Blk.new w _ _).drewN _).drewN _).drewN _)
  have B1 : Below w.heap.size w w1 := by rw [← hw1]; exact below_drewN (below_drewN (below_drewN ((Below.refl _ _).alloc (Nat.le_refl _) _) _) _) _
  clear hw1 c0 d1
  have p0 : w1.cell? ⟨w.heap.size, 0, none⟩ = some (.int .i64 (i : Int)) := P1.cell 0
  have p2 : w1.cell? ⟨w.heap.size, 2, none⟩ = some (.string t) := P1.cell 2
  have hall := fun n => refAll_any q gl m (w1.drewN n) (H1.below (below_drewN (Below.refl _ _) n)) hm hs
  have hsz : (allTo m m.length).size = size m := by rw [allTo_size m.length (Nat.le_refl _), List.take_length]
  generalize allTo m m.length = X at hall hsz
  have HALL := Lib.hid hall
  have hX : X.size ≤ 524288 := by omega
  have hwrap : IntKind.i64.wrap ((X.size : Int) + (t.size : Int)) = (X.size : Int) + (t.size : Int) := by rw [IntKind.wrap_i64]; omega
  have HSZ := Lib.hid hsz
  have HH1 := Lib.hid H1
  have HP1 := Lib.hid P1
  have HB1 := Lib.hid B1
  clear hall hsz H1 P1 B1
  go_quiet ((go_at_call 27; first | exact quiet_left (HALL.out _) | exact quiet_add_left (HALL.out _)))
  clear hwrap
  by_cases hl : 524288 < X.size + t.size
  · have hli : (524288 : Int) < (X.size : Int) + (t.size : Int) := by omega
    have hv := Lib.hid (show putOf m i m.length t = (m, 4) by rw [hv0, if_pos (by rw [← HSZ.out]; exact hl)])
    clear hv0
    go_wp2_with fail
    go_ret
    exact refPutSays_same (e := 4) hv.out H.out (below_drewN HB1.out _)
  · have hli : ¬ ((524288 : Int) < (X.size : Int) + (t.size : Int)) := by omega
    have hv := Lib.hid (show putOf m i m.length t = (m.set i (some t), 0) by rw [hv0, if_neg (by rw [← HSZ.out]; exact hl)])
    clear hv0
    go_upto_region 11 with (fail)
    generalize hw2 : w1.drewN _ = w2
    have H2 : RefAt w2 q gl m := by rw [← hw2]; exact ⟨HH1.out.1.drewN _, HH1.out.2.drewN _⟩
    have P2 : Blk w2 w.heap.size [.int .i64 (i : Int), .int .i64 (m.length : Int), .string t] 36 := by rw [← hw2]; exact HP1.out.drewN _
    have B2 : Below w.heap.size w w2 := by rw [← hw2]; exact below_drewN HB1.out _
    clear hw2 p0 p2
    have c0 : w2.cell? ⟨q, 0, none⟩ = some (.slice (some ⟨gl, 0, none⟩) m.length m.length) := H2.1.cell 0
    have p0 : w2.cell? ⟨w.heap.size, 0, none⟩ = some (.int .i64 (i : Int)) := P2.cell 0
    have p2 : w2.cell? ⟨w.heap.size, 2, none⟩ = some (.string t) := P2.cell 2
    obtain ⟨d1, d2⟩ := H2.cells i hi
    have f1 := H2.2.free (i * 2)
    have f2 := H2.2.free (i * 2 + 1)
    have hn0 : gl ≠ w.heap.size := by omega
    have HH2 := Lib.hid H2
    have HB2 := Lib.hid B2
    clear H2 P2 B2
    go_region
    all_goals go_wp2_with fail
    all_goals go_ret
    all_goals
      refine ⟨by rw [hv.out]; rfl, ?_, ?_⟩
      · rw [hv.out]
        refine ⟨?_, ?_⟩
        · show Blk _ q [.slice (some ⟨gl, 0, none⟩) (m.set i (some t)).length (m.set i (some t)).length] _
          rw [List.length_set]
          exact ((HH2.out.1.drew).set_other (a := ⟨gl, i * 2, none⟩) hqg _).set_other (a := ⟨gl, i * 2 + 1, none⟩) hqg _
        · show Blk _ gl ((m.set i (some t)).flatMap pPlace) _
          rw [← flat_set m i (some t) hi]
          exact ((HH2.out.2.drew).set (i * 2) _).set (i * 2 + 1) _
      · exact Touch.drew (Touch.set (S := fun k => k = gl) (Touch.set (S := fun k => k = gl) (Touch.of_below HB2.out) (p := ⟨gl, i * 2, none⟩) (Or.inl rfl) _) (p := ⟨gl, i * 2 + 1, none⟩) (Or.inl rfl) _)
theorem refPut_any (q gl : Nat) (m : List (Option ByteArray)) (at' of' : Int) (t : ByteArray) (w : World) (h : RefAt w q gl m) (hm : m.length ≤ 4096) (hs : size m ≤ 524288) (ht : t.size ≤ 1000000) :
    Calls Try.prog 25 #[.pointer (some ⟨q, 0, none⟩), .agg #[.int .i64 at', .int .i64 of', .string t]] w (RefPutSays q gl m at' of' t w) := by
  by_cases ho : of' = m.length
  · subst ho
    by_cases ha : at' < 0 ∨ (m.length : Int) ≤ at'
    · exact refPut_range q gl m at' t w h ha
    · obtain ⟨i, rfl⟩ := Int.eq_ofNat_of_zero_le (show 0 ≤ at' by omega)
      have hi : i < m.length := by omega
      cases hu : m[i] with
      | some u => exact refPut_there q gl m i u t w h hi hu
      | none => exact refPut_free q gl m i t w h hi hu hm hs ht
  · exact refPut_arg q gl m at' of' t w h ho
end Go.Proofs.Ytdhkdmnhkldebaa
