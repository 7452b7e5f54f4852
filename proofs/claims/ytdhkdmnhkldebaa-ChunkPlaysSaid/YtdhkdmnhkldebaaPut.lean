/- The walk of Put: a part is put into a box (chunk). Condition: the box holds at most 524288 bytes; the text is no longer than maxLen. -/
import Derived.Test.YtdhkdmnhkldebaaBox
import Derived.Test.YtdhkdmnhkldebaaCut
namespace Go.Proofs.Ytdhkdmnhkldebaa
open Go.RowKit

def putOf (m : List (Option ByteArray)) (at' of' : Int) (t : ByteArray) : List (Option ByteArray) × Nat :=
  if of' ≠ m.length then (m, 1)
  else if at' < 0 ∨ of' ≤ at' then (m, 2)
  else match m.getD at'.toNat none with
    | some u => if u = t then (m, 0) else (m, 6)
    | none => if 524288 < size m + t.size then (m, 4) else (m.set at'.toNat (some t), 0)

theorem left_pos {m : List (Option ByteArray)} {i : Nat} (hi : i < m.length) (hu : m[i] = none) : 1 ≤ left m := by
  unfold left
  exact List.countP_pos_iff.2 ⟨m[i], List.getElem_mem hi, by rw [hu]; rfl⟩

theorem left_set (m : List (Option ByteArray)) : ∀ (i : Nat) (t : ByteArray) (hi : i < m.length), m[i] = none → left (m.set i (some t)) + 1 = left m := by
  induction m with
  | nil => intro i t hi; simp at hi
  | cons o m ih =>
    intro i t hi hu
    cases i with
    | zero =>
      simp at hu
      subst hu
      simp [left]
    | succ i =>
      have h := ih i t (by simpa using hi) (by simpa using hu)
      unfold left at h ⊢
      rw [List.set_cons_succ, List.countP_cons, List.countP_cons]
      omega
theorem size_set (m : List (Option ByteArray)) : ∀ (i : Nat) (t : ByteArray) (hi : i < m.length), m[i] = none → size (m.set i (some t)) = size m + t.size := by
  induction m with
  | nil => intro i t hi; simp at hi
  | cons o m ih =>
    intro i t hi hu
    cases i with
    | zero =>
      simp at hu
      subst hu
      have he : ByteArray.empty.size = 0 := rfl
      simp [size, he]
      omega
    | succ i =>
      have h := ih i t (by simpa using hi) (by simpa using hu)
      unfold size at h ⊢
      rw [List.set_cons_succ, List.map_cons, List.map_cons, List.sum_cons, List.sum_cons]
      omega

def InBox (b gp gh : Nat) : Nat → Prop := fun k => k = b ∨ k = gp ∨ k = gh
def PutSays (b gp gh : Nat) (m : List (Option ByteArray)) (at' of' : Int) (t : ByteArray) (w : World) (e : Ending) (w' : World) : Prop :=
  e = .returned (.int .i64 ((putOf m at' of' t).2 : Nat)) ∧ BoxAt w' b gp gh (putOf m at' of' t).1 ∧ Touch (InBox b gp gh) w w'

theorem boxAt_same {w w' : World} {b gp gh : Nat} {m : List (Option ByteArray)} (h : BoxAt w b gp gh m) (hb : Below w.heap.size w w') : BoxAt w' b gp gh m := ⟨h.1.below hb, h.2.1.below hb, h.2.2.below hb⟩
theorem putSays_same {b gp gh : Nat} {m : List (Option ByteArray)} {at' of' : Int} {t : ByteArray} {w w' : World} {e : Nat} (hv : putOf m at' of' t = (m, e)) (h : BoxAt w b gp gh m) (hb : Below w.heap.size w w') :
    PutSays b gp gh m at' of' t w (.returned (.int .i64 (e : Int))) w' := by
  refine ⟨by rw [hv], ?_, Touch.of_below hb⟩
  rw [hv]; exact boxAt_same h hb

set_option maxRecDepth 100000 in
set_option maxHeartbeats 1000000 in
theorem put_arg (b gp gh : Nat) (m : List (Option ByteArray)) (at' of' : Int) (t : ByteArray) (w : World) (h : BoxAt w b gp gh m) (ho : of' ≠ m.length) :
    Calls Try.prog 15 #[.pointer (some ⟨b, 0, none⟩), .agg #[.int .i64 at', .int .i64 of', .string t]] w (PutSays b gp gh m at' of' t w) := by
  have hv := Lib.hid (show putOf m at' of' t = (m, 1) by rw [putOf, if_pos ho])
  have hb := h.1.lt
  have c0 : w.cell? ⟨b, 0, none⟩ = some (.slice (some ⟨gp, 0, none⟩) m.length m.length) := h.1.cell 0
  have hne : (of' != (m.length : Int)) = true := by rw [bne_iff_ne]; exact ho
  have H := Lib.hid h
  clear h ho
  go_enter Try.func15, Try.ntmps15
  go_wp2
  go_quiet (fail)
  go_wp2
  go_ret
  exact putSays_same (e := 1) hv.out H.out (below_drewN ((Below.refl _ _).alloc (Nat.le_refl _) _) _)
set_option maxRecDepth 100000 in
set_option maxHeartbeats 1000000 in
theorem put_range (b gp gh : Nat) (m : List (Option ByteArray)) (at' : Int) (t : ByteArray) (w : World) (h : BoxAt w b gp gh m) (ha : at' < 0 ∨ (m.length : Int) ≤ at') :
    Calls Try.prog 15 #[.pointer (some ⟨b, 0, none⟩), .agg #[.int .i64 at', .int .i64 (m.length : Int), .string t]] w (PutSays b gp gh m at' m.length t w) := by
  have hv := Lib.hid (show putOf m at' m.length t = (m, 2) by rw [putOf, if_neg (by simp), if_pos ha])
  have hb := h.1.lt
  have c0 : w.cell? ⟨b, 0, none⟩ = some (.slice (some ⟨gp, 0, none⟩) m.length m.length) := h.1.cell 0
  have hne : ((m.length : Int) != (m.length : Int)) = false := by simp
  have hd : (decide (at' < 0) || decide ((m.length : Int) ≤ at')) = true := by simp only [Bool.or_eq_true, decide_eq_true_eq]; exact ha
  have H := Lib.hid h
  clear h
  by_cases h0 : at' < 0
  · clear ha
    go_enter Try.func15, Try.ntmps15
    go_wp2
    go_quiet (fail)
    go_wp2
    go_ret
    exact putSays_same (e := 2) hv.out H.out (below_drewN ((Below.refl _ _).alloc (Nat.le_refl _) _) _)
  · have h1 : (m.length : Int) ≤ at' := by omega
    clear ha hd
    go_enter Try.func15, Try.ntmps15
    go_wp2
    go_quiet (fail)
    go_wp2
    go_ret
    exact putSays_same (e := 2) hv.out H.out (below_drewN ((Below.refl _ _).alloc (Nat.le_refl _) _) _)

theorem str_eq (a b : ByteArray) : (a.toList == b.toList) = decide (a = b) := by
  rw [ByteArray.toList_eq, ByteArray.toList_eq]
  by_cases h : a = b
  · subst h; simp
  · rw [decide_eq_false h]
    simp only [beq_eq_false_iff_ne, ne_eq]
    intro h2
    apply h
    cases a; cases b
    congr
    simpa using h2

set_option maxRecDepth 100000 in
set_option maxHeartbeats 1000000 in
theorem put_there (b gp gh : Nat) (m : List (Option ByteArray)) (i : Nat) (u t : ByteArray) (w : World) (h : BoxAt w b gp gh m) (hi : i < m.length) (hu : m[i] = some u) :
    Calls Try.prog 15 #[.pointer (some ⟨b, 0, none⟩), .agg #[.int .i64 (i : Int), .int .i64 (m.length : Int), .string t]] w (PutSays b gp gh m i m.length t w) := by
  have hv0 : putOf m i m.length t = (m, if u = t then 0 else 6) := by
    rw [putOf, if_neg (by simp), if_neg (by omega), Int.toNat_natCast, List.getD, List.getElem?_eq_getElem hi, hu]
    simp only [Option.getD_some]
    split <;> rfl
  have hb := h.1.lt
  have hgp := h.2.1.lt
  have hgh := h.2.2.lt
  have c0 : w.cell? ⟨b, 0, none⟩ = some (.slice (some ⟨gp, 0, none⟩) m.length m.length) := h.1.cell 0
  have c1 : w.cell? ⟨b, 1, none⟩ = some (.slice (some ⟨gh, 0, none⟩) m.length m.length) := h.1.cell 1
  have d1 : w.cell? ⟨gp, i, none⟩ = some (.string u) := by rw [h.2.1.cell i, List.getElem?_map, List.getElem?_eq_getElem hi, hu]; rfl
  have d2 : w.cell? ⟨gh, i, none⟩ = some (.bool true) := by rw [h.2.2.cell i, List.getElem?_map, List.getElem?_eq_getElem hi, hu]; rfl
  have hne : ((m.length : Int) != (m.length : Int)) = false := by simp
  have hi1 : (i : Int) < (m.length : Int) := by omega
  have H := Lib.hid h
  clear h hu
  by_cases hut : u = t
  · have hv := Lib.hid (show putOf m i m.length t = (m, 0) by rw [hv0, if_pos hut])
    have hs : (u.toList == t.toList) = true := by rw [str_eq, decide_eq_true hut]
    clear hv0 hut
    go_enter Try.func15, Try.ntmps15
    go_wp2
    go_quiet (fail)
    go_wp2
    go_quiet (fail)
    go_wp2
    go_quiet (fail)
    go_wp2
    go_ret
    exact putSays_same (e := 0) hv.out H.out (by repeat (first | exact (Below.refl _ _).alloc (Nat.le_refl _) _ | refine below_drewN ?_ _))
  · have hv := Lib.hid (show putOf m i m.length t = (m, 6) by rw [hv0, if_neg hut])
    have hs : (u.toList == t.toList) = false := by rw [str_eq, decide_eq_false hut]
    clear hv0 hut
    go_enter Try.func15, Try.ntmps15
    go_wp2
    go_quiet (fail)
    go_wp2
    go_quiet (fail)
    go_wp2
    go_quiet (fail)
    go_wp2
    go_ret
    exact putSays_same (e := 6) hv.out H.out (by repeat (first | exact (Below.refl _ _).alloc (Nat.le_refl _) _ | refine below_drewN ?_ _))

set_option maxRecDepth 100000 in
set_option maxHeartbeats 1000000 in
theorem put_long (b gp gh : Nat) (m : List (Option ByteArray)) (i : Nat) (t : ByteArray) (w : World) (h : BoxAt w b gp gh m) (hi : i < m.length) (hu : m[i] = none) (hsz : size m ≤ 524288) (hl : 524288 < size m + t.size) (_ht : t.size ≤ maxLen) :
    Calls Try.prog 15 #[.pointer (some ⟨b, 0, none⟩), .agg #[.int .i64 (i : Int), .int .i64 (m.length : Int), .string t]] w (PutSays b gp gh m i m.length t w) := by
  have hv := Lib.hid (show putOf m i m.length t = (m, 4) by
    rw [putOf, if_neg (by simp), if_neg (by omega), Int.toNat_natCast, List.getD, List.getElem?_eq_getElem hi, hu]
    simp only [Option.getD_some]
    rw [if_pos hl])
  have hb := h.1.lt
  have hgp := h.2.1.lt
  have hgh := h.2.2.lt
  have c0 : w.cell? ⟨b, 0, none⟩ = some (.slice (some ⟨gp, 0, none⟩) m.length m.length) := h.1.cell 0
  have c1 : w.cell? ⟨b, 1, none⟩ = some (.slice (some ⟨gh, 0, none⟩) m.length m.length) := h.1.cell 1
  have c3 : w.cell? ⟨b, 3, none⟩ = some (.int .i64 (size m : Nat)) := h.1.cell 3
  have d2 : w.cell? ⟨gh, i, none⟩ = some (.bool false) := by rw [h.2.2.cell i, List.getElem?_map, List.getElem?_eq_getElem hi, hu]; rfl
  have hne : ((m.length : Int) != (m.length : Int)) = false := by simp
  have hi1 : (i : Int) < (m.length : Int) := by omega
  have H := Lib.hid h
  clear h hu
  go_enter Try.func15, Try.ntmps15
  go_wp2
  go_quiet (fail)
  go_wp2
  go_quiet (fail)
  go_wp2
  go_quiet (fail)
  go_wp2
  go_ret
  exact putSays_same (e := 4) hv.out H.out (by repeat (first | exact (Below.refl _ _).alloc (Nat.le_refl _) _ | refine below_drewN ?_ _))

set_option maxRecDepth 100000 in
set_option maxHeartbeats 1000000 in
theorem put_in (b gp gh : Nat) (m : List (Option ByteArray)) (i : Nat) (t : ByteArray) (w : World) (h : BoxAt w b gp gh m) (hi : i < m.length) (hu : m[i] = none) (hl : size m + t.size ≤ 524288) (hm : m.length ≤ 4096) :
    Calls Try.prog 15 #[.pointer (some ⟨b, 0, none⟩), .agg #[.int .i64 (i : Int), .int .i64 (m.length : Int), .string t]] w (PutSays b gp gh m i m.length t w) := by
  have hv := Lib.hid (show putOf m i m.length t = (m.set i (some t), 0) by
    rw [putOf, if_neg (by simp), if_neg (by omega), Int.toNat_natCast, List.getD, List.getElem?_eq_getElem hi, hu]
    simp only [Option.getD_some]
    rw [if_neg (by omega)])
  have hb := h.1.lt
  have hgp := h.2.1.lt
  have hgh := h.2.2.lt
  have n1 : b ≠ gp := h.1.ne h.2.1 (by decide)
  have n2 : b ≠ gh := h.1.ne h.2.2 (by decide)
  have n3 : gp ≠ gh := h.2.1.ne h.2.2 (by decide)
  have c0 : w.cell? ⟨b, 0, none⟩ = some (.slice (some ⟨gp, 0, none⟩) m.length m.length) := h.1.cell 0
  have c1 : w.cell? ⟨b, 1, none⟩ = some (.slice (some ⟨gh, 0, none⟩) m.length m.length) := h.1.cell 1
  have c2 : w.cell? ⟨b, 2, none⟩ = some (.int .i64 (left m : Nat)) := h.1.cell 2
  have c3 : w.cell? ⟨b, 3, none⟩ = some (.int .i64 (size m : Nat)) := h.1.cell 3
  have d1 : w.cell? ⟨gp, i, none⟩ = some (.string ByteArray.empty) := by rw [h.2.1.cell i, List.getElem?_map, List.getElem?_eq_getElem hi, hu]; rfl
  have d2 : w.cell? ⟨gh, i, none⟩ = some (.bool false) := by rw [h.2.2.cell i, List.getElem?_map, List.getElem?_eq_getElem hi, hu]; rfl
  have f1 := h.2.1.free i
  have f2 := h.2.2.free i
  have f3 := h.1.free 2
  have f4 := h.1.free 3
  have hne : ((m.length : Int) != (m.length : Int)) = false := by simp
  have hi1 : (i : Int) < (m.length : Int) := by omega
  have H := Lib.hid h
  have Hu := Lib.hid hu
  clear h hu
  go_enter Try.func15, Try.ntmps15
  go_wp2
  go_quiet (fail)
  go_wp2
  go_quiet (fail)
  go_wp2
  go_quiet (fail)
  go_wp2
  generalize hw1 : (((w.alloc (Obj.cells #[.int .i64 (i : Int), .int .i64 (m.length : Int), .string t] 36)).drewN _).drewN _).drewN _ = w1
  have H1 : BoxAt w1 b gp gh m := by rw [← hw1]; exact ⟨((((H.out.1.alloc _).drewN _).drewN _).drewN _), ((((H.out.2.1.alloc _).drewN _).drewN _).drewN _), ((((H.out.2.2.alloc _).drewN _).drewN _).drewN _)⟩
  have P1 : Blk w1 w.heap.size [.int .i64 (i : Int), .int .i64 (m.length : Int), .string t] 36 := by rw [← hw1]; exact ((((Blk.new w _ _).drewN _).drewN _).drewN _)
  have T1 : Touch (InBox b gp gh) w w1 := by rw [← hw1]; exact (((((Touch.refl _ _).alloc _).drewN _).drewN _).drewN _)
  clear hw1 c0 c1 c2 c3 d1 d2 f1 f2 f3 f4 H
  obtain ⟨B1, B2, B3⟩ := H1
  have m0 : b ≠ w.heap.size := by omega
  have m1 : gp ≠ w.heap.size := by omega
  have m2 : gh ≠ w.heap.size := by omega
  have c0 : w1.cell? ⟨b, 0, none⟩ = some (.slice (some ⟨gp, 0, none⟩) m.length m.length) := B1.cell 0
  have c1 : w1.cell? ⟨b, 1, none⟩ = some (.slice (some ⟨gh, 0, none⟩) m.length m.length) := B1.cell 1
  have p0 : w1.cell? ⟨w.heap.size, 0, none⟩ = some (.int .i64 (i : Int)) := P1.cell 0
  have p2 : w1.cell? ⟨w.heap.size, 2, none⟩ = some (.string t) := P1.cell 2
  have d1 : w1.cell? ⟨gp, i, none⟩ = some (.string ByteArray.empty) := by rw [B2.cell i, List.getElem?_map, List.getElem?_eq_getElem hi, Hu.out]; rfl
  have d2 : w1.cell? ⟨gh, i, none⟩ = some (.bool false) := by rw [B3.cell i, List.getElem?_map, List.getElem?_eq_getElem hi, Hu.out]; rfl
  have f1 := B2.free i
  have f2 := B3.free i
  have HB1 := Lib.hid B1
  have HB2 := Lib.hid B2
  have HB3 := Lib.hid B3
  have HP1 := Lib.hid P1
  clear B1 B2 B3 P1
  go_cut [3] (fun v wx => v = .pointer (some ⟨w.heap.size, 0, none⟩) ∧ Blk wx b [.slice (some ⟨gp, 0, none⟩) m.length m.length, .slice (some ⟨gh, 0, none⟩) m.length m.length, .int .i64 (left m : Nat), .int .i64 (size m : Nat)] 58 ∧
    Blk wx gp ((m.map pStr).set i (.string t)) 9 ∧ Blk wx gh ((m.map pHas).set i (.bool true)) 4 ∧ Blk wx w.heap.size [.int .i64 (i : Int), .int .i64 (m.length : Int), .string t] 36 ∧ Touch (InBox b gp gh) w wx)
  case first =>
    go_region
    all_goals go_wp2_with fail
    all_goals go_meet
    all_goals
      refine ⟨rfl, ?_, ?_, ?_, ?_, ?_⟩
      · repeat (first | exact HB1.out | refine Blk.drew ?_ | refine Blk.set_other ?_ (by assumption) _)
      · repeat (first | exact HB2.out | refine Blk.drew ?_ | refine Blk.set_other ?_ (by assumption) _ | refine Blk.set ?_ _ _)
      · repeat (first | exact HB3.out | refine Blk.drew ?_ | refine Blk.set_other ?_ (Ne.symm n3) _ | refine Blk.set ?_ _ _)
      · repeat (first | exact HP1.out | refine Blk.drew ?_ | refine Blk.set_other ?_ (Ne.symm m1) _ | refine Blk.set_other ?_ (Ne.symm m2) _)
      · repeat (first | exact T1 | refine Touch.drew ?_ | refine Touch.set ?_ (Or.inl (Or.inr (Or.inl rfl))) _ | refine Touch.set ?_ (Or.inl (Or.inr (Or.inr rfl))) _)
  case rest =>
    obtain ⟨rfl, B1, B2, B3, P1, T2⟩ := hcut
    have c2 : wc.cell? ⟨b, 2, none⟩ = some (.int .i64 (left m : Nat)) := B1.cell 2
    have f3 := B1.free 2
    have hl1 : 1 ≤ left m := left_pos hi Hu.out
    have hl2 : left m ≤ m.length := List.countP_le_length
    have HB1 := Lib.hid B1
    have HB2 := Lib.hid B2
    have HB3 := Lib.hid B3
    have HP1 := Lib.hid P1
    clear B1 B2 B3 P1 c0 c1 p0 p2 d1 d2 f1 f2
    go_wp2
    have hw2 := HB1.out.set 2 (.int .i64 ((left m : Int) - 1))
    have c3 : (wc.setCell ⟨b, 2, none⟩ (.int .i64 ((left m : Int) - 1))).cell? ⟨b, 3, none⟩ = some (.int .i64 (size m : Nat)) := hw2.cell 3
    have p2 : (wc.setCell ⟨b, 2, none⟩ (.int .i64 ((left m : Int) - 1))).cell? ⟨w.heap.size, 2, none⟩ = some (.string t) := (HP1.out.set_other (Ne.symm m0) _).cell 2
    have f4 := hw2.free 3
    have Hw2 := Lib.hid hw2
    clear hw2
    go_region
    all_goals go_wp2
    all_goals go_ret
    all_goals
      have hbx : Blk (((wc.setCell ⟨b, 2, none⟩ (.int .i64 ((left m : Int) - 1))).setCell ⟨b, 3, none⟩ (.int .i64 ((size m : Int) + (t.size : Int)))).drew) b [.slice (some ⟨gp, 0, none⟩) m.length m.length, .slice (some ⟨gh, 0, none⟩) m.length m.length, .int .i64 ((left m : Int) - 1), .int .i64 ((size m : Int) + (t.size : Int))] 58 := Hw2.out.set 3 _
      have e1 : ((left m : Int) - 1) = ((left (m.set i (some t)) : Nat) : Int) := by have := left_set m i t hi Hu.out; omega
      have e2 : ((size m : Int) + (t.size : Int)) = ((size (m.set i (some t)) : Nat) : Int) := by rw [size_set m i t hi Hu.out]; omega
      refine ⟨by rw [hv.out]; rfl, ?_, ?_⟩
      · rw [hv.out]
        refine ⟨?_, ?_, ?_⟩
        · show Blk _ b [.slice (some ⟨gp, 0, none⟩) (m.set i (some t)).length (m.set i (some t)).length, .slice (some ⟨gh, 0, none⟩) (m.set i (some t)).length (m.set i (some t)).length, .int .i64 (left (m.set i (some t)) : Nat), .int .i64 (size (m.set i (some t)) : Nat)] _
          rw [List.length_set, ← e1, ← e2]
          exact hbx
        · show Blk _ gp ((m.set i (some t)).map pStr) _
          rw [List.map_set]
          exact (HB2.out.set_other (Ne.symm n1) _).set_other (Ne.symm n1) _
        · show Blk _ gh ((m.set i (some t)).map pHas) _
          rw [List.map_set]
          exact (HB3.out.set_other (Ne.symm n2) _).set_other (Ne.symm n2) _
      · exact ((T2.set (Or.inl (Or.inl rfl)) _).set (Or.inl (Or.inl rfl)) _).drew

theorem put_any (b gp gh : Nat) (m : List (Option ByteArray)) (at' of' : Int) (t : ByteArray) (w : World) (h : BoxAt w b gp gh m) (hm : m.length ≤ 4096) (hsz : size m ≤ 524288) (ht : t.size ≤ maxLen) :
    Calls Try.prog 15 #[.pointer (some ⟨b, 0, none⟩), .agg #[.int .i64 at', .int .i64 of', .string t]] w (PutSays b gp gh m at' of' t w) := by
  by_cases ho : of' = m.length
  · subst ho
    by_cases ha : at' < 0 ∨ (m.length : Int) ≤ at'
    · exact put_range b gp gh m at' t w h ha
    · obtain ⟨i, rfl⟩ := Int.eq_ofNat_of_zero_le (show 0 ≤ at' by omega)
      have hi : i < m.length := by omega
      cases hu : m[i] with
      | some u => exact put_there b gp gh m i u t w h hi hu
      | none =>
        by_cases hl : size m + t.size ≤ 524288
        · exact put_in b gp gh m i t w h hi hu hl hm
        · exact put_long b gp gh m i t w h hi hu hsz (by omega) ht
  · exact put_arg b gp gh m at' of' t w h ho

theorem putOf_length (m : List (Option ByteArray)) (at' of' : Int) (t : ByteArray) : (putOf m at' of' t).1.length = m.length := by
  unfold putOf
  split
  · rfl
  · split
    · rfl
    · split
      · split <;> rfl
      · split
        · rfl
        · simp
theorem putOf_size (m : List (Option ByteArray)) (at' of' : Int) (t : ByteArray) (h : size m ≤ 524288) : size (putOf m at' of' t).1 ≤ 524288 := by
  unfold putOf
  split
  · exact h
  · split
    · exact h
    · split
      · split <;> exact h
      · next hn ha hq =>
        split
        · exact h
        · next hl =>
          have hi : at'.toNat < m.length := by omega
          rw [List.getD, List.getElem?_eq_getElem hi] at hq
          show size (m.set at'.toNat (some t)) ≤ 524288
          rw [size_set m _ t hi (by simpa using hq)]
          omega
end Go.Proofs.Ytdhkdmnhkldebaa
