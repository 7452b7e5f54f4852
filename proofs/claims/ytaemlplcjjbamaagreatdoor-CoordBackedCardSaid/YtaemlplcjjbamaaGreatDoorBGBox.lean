/- The walks of the box (chunk): New, Of, Left, Put, Missing, T -/
import Derived.Test.YtaemlplcjjbamaaGreatDoorBCut
import Derived.Test.YtaemlplcjjbamaaGreatDoorBWriter
namespace Go.Proofs.YtaemlplcjjbamaaGreatDoor.Bx
open Go.Lib (hid)
set_option maxRecDepth 100000
set_option maxHeartbeats 8000000
open Go Go.RowKit
set_option linter.unusedVariables false
variable {at' of' : Int} {b gh gp i k n : Nat} {w w' : World}
def pStr (o : Option ByteArray) : Value := .string (o.getD ByteArray.empty)
def pHas (o : Option ByteArray) : Value := .bool o.isSome
def left (m : List (Option ByteArray)) : Nat := m.countP (·.isNone)
def size (m : List (Option ByteArray)) : Nat := (m.map fun o => (o.getD ByteArray.empty).size).sum
def BoxAt (w : World) (b gp gh : Nat) (m : List (Option ByteArray)) : Prop :=
 Blk w b [.slice (some ⟨gp, 0, none⟩) m.length m.length, .slice (some ⟨gh, 0, none⟩) m.length m.length, .int .i64 (left m : Nat), .int .i64 (size m : Nat)] 166 ∧
 Blk w gp (m.map pStr) 9 ∧ Blk w gh (m.map pHas) 4
theorem zEt : (Tryz.prog.info? 9).map (fun i => (i.zero, i.size, i.bytes)) = some (some (.string ByteArray.empty), 1, 16) := by kernel_rfl
theorem zHY : (Tryz.prog.info? 4).map (fun i => (i.zero, i.size, i.bytes)) = some (some (.bool false), 1, 1) := by kernel_rfl
def zIB (n : Nat) (w : World) (e : Ending) (w' : World) : Prop :=
 ∃ b gp gh, e = .returned (.tuple #[.pointer (some ⟨b, 0, none⟩), .int .i64 0]) ∧ BoxAt w' b gp gh (List.replicate n none) ∧ w.heap.size ≤ b ∧ w.heap.size ≤ gp ∧ w.heap.size ≤ gh ∧ Below w.heap.size w w'
theorem left_new (n : Nat) : left (List.replicate n none) = n := by unfold left; rw [List.countP_replicate]; simp
theorem size_new (n : Nat) : size (List.replicate n none) = 0 := by unfold size; rw [List.map_replicate]; simp
def zES (n : Nat) : Obj := .cells (Array.replicate n (.string ByteArray.empty)) 9
def zDB (n : Nat) : Obj := .cells (Array.replicate n (.bool false)) 4
def boxObj (gp gh n : Nat) : Obj := .cells #[.slice (some ⟨gp, 0, none⟩) n n, .slice (some ⟨gh, 0, none⟩) n n, .int .i64 n, .int .i64 0] 166
theorem zHF (h1 : Blk w b [.slice (some ⟨gp, 0, none⟩) n n, .slice (some ⟨gh, 0, none⟩) n n, .int .i64 n, .int .i64 0] 166)
  (h2 : Blk w gp (List.replicate n (.string ByteArray.empty)) 9) (h3 : Blk w gh (List.replicate n (.bool false)) 4) : BoxAt w b gp gh (List.replicate n none) := by
 refine ⟨?_, ?_, ?_⟩
 ·rw [left_new, size_new, List.length_replicate]; exact h1
 ·rw [List.map_replicate]; exact h2
 ·rw [List.map_replicate]; exact h3
theorem newSays_1 (n : Nat) (w : World) : zIB n w (.returned (.tuple #[.pointer (some ⟨w.heap.size + 1 + 1, 0, none⟩), .int .i64 0])) (((w.alloc (zES n)).alloc (zDB n)).alloc (boxObj w.heap.size (w.heap.size + 1) n)).drew := by
 refine ⟨_, w.heap.size, w.heap.size + 1, rfl, zHF ?_ ?_ ?_, by omega, by omega, by omega, ?_⟩
 ·have h := Blk.new ((w.alloc (zES n)).alloc (zDB n)) [.slice (some ⟨w.heap.size, 0, none⟩) n n, .slice (some ⟨w.heap.size + 1, 0, none⟩) n n, .int .i64 n, .int .i64 0] 166
  rw [World.size_alloc, World.size_alloc] at h
  exact h
 ·exact ((Blk.new w (List.replicate n (.string ByteArray.empty)) 9).alloc _).alloc _
 ·have h := Blk.new (w.alloc (zES n)) (List.replicate n (.bool false)) 4
  rw [World.size_alloc] at h
  exact h.alloc _
 ·exact ((((Below.refl _ _).alloc (Nat.le_refl _) _).alloc (by simp) _).alloc (by simp; omega) _).drew
theorem newSays_2 (n : Nat) (w : World) : zIB n w (.returned (.tuple #[.pointer (some ⟨w.heap.size + 1 + 1, 0, none⟩), .int .i64 0])) (((w.alloc (zDB n)).alloc (zES n)).alloc (boxObj (w.heap.size + 1) w.heap.size n)).drew := by
 refine ⟨_, w.heap.size + 1, w.heap.size, rfl, zHF ?_ ?_ ?_, by omega, by omega, by omega, ?_⟩
 ·have h := Blk.new ((w.alloc (zDB n)).alloc (zES n)) [.slice (some ⟨w.heap.size + 1, 0, none⟩) n n, .slice (some ⟨w.heap.size, 0, none⟩) n n, .int .i64 n, .int .i64 0] 166
  rw [World.size_alloc, World.size_alloc] at h
  exact h
 ·have h := Blk.new (w.alloc (zDB n)) (List.replicate n (.string ByteArray.empty)) 9
  rw [World.size_alloc] at h
  exact h.alloc _
 ·exact ((Blk.new w (List.replicate n (.bool false)) 4).alloc _).alloc _
 ·exact ((((Below.refl _ _).alloc (Nat.le_refl _) _).alloc (by simp) _).alloc (by simp; omega) _).drew
theorem new_any (n : Nat) (w : World) (h1 : 1 ≤ n) (h2 : n ≤ 4096) :
  Calls Tryz.prog 104 #[.int .i64 n] w (zIB n w) := by
 have hmk := fun W => zBT (P := Tryz.prog) 49 9 (.string ByteArray.empty) 16 Tryz.underlying49 zEt rfl n (by omega) (by omega) W
 have hmk2 := fun W => zBT (P := Tryz.prog) 164 4 (.bool false) 1 Tryz.underlying164 zHY rfl n (by omega) (by omega) W
 go_enter Tryz.func104, Tryz.ntmps104
 go_wp2
 go_region
 all_goals go_wp2
 all_goals go_ret2
 all_goals first | exact newSays_1 n w | exact newSays_2 n w
theorem new_no (n : Int) (w : World) (h : n < 1 ∨ 4096 < n) :
  Calls Tryz.prog 104 #[.int .i64 n] w fun e w' => e = .returned (.tuple #[.pointer none, .int .i64 1]) ∧ w = w' := by
 have hd : (decide (n < 1) || decide (4096 < n)) = true := by simp only [Bool.or_eq_true, decide_eq_true_eq]; exact h
 clear h
 go_enter Tryz.func104, Tryz.ntmps104
 go_wp2
 all_goals (go_ret2; exact ⟨rfl, rfl⟩)
theorem leftOf_any (b gp gh : Nat) (m : List (Option ByteArray)) (w : World) (h : BoxAt w b gp gh m) :
  Calls Tryz.prog 106 #[.pointer (some ⟨b, 0, none⟩)] w fun e w' => e = .returned (.int .i64 (left m : Nat)) ∧ w = w' := by
 have c2 := h.1.cell 2
 simp only [List.getElem?_cons_succ, List.getElem?_cons_zero] at c2
 clear h
 go_enter Tryz.func106, Tryz.ntmps106
 go_wp2
 go_ret
 exact ⟨rfl, rfl⟩
theorem ofOf_any (b gp gh : Nat) (m : List (Option ByteArray)) (w : World) (h : BoxAt w b gp gh m) :
  Calls Tryz.prog 103 #[.pointer (some ⟨b, 0, none⟩)] w fun e w' => e = .returned (.int .i64 (m.length : Nat)) ∧ w = w' := by
 have c0 := h.1.cell 0
 simp only [List.getElem?_cons_zero] at c0
 clear h
 go_enter Tryz.func103, Tryz.ntmps103
 go_wp2
 go_ret
 exact ⟨rfl, rfl⟩
def putOf (m : List (Option ByteArray)) (at' of' : Int) (t : ByteArray) : List (Option ByteArray) × Nat :=
 if of' ≠ m.length then (m, 1)
 else if at' < 0 ∨ of' ≤ at' then (m, 2)
 else match m.getD at'.toNat none with
  | some u => if u = t then (m, 0) else (m, 6)
  | none => if 524288 < size m + t.size then (m, 4) else (m.set at'.toNat (some t), 0)
theorem left_pos {m : List (Option ByteArray)} (hi : i < m.length) (hu : m[i] = none) : 1 ≤ left m := by
 unfold left
 exact List.countP_pos_iff.2 ⟨m[i], List.getElem_mem hi, by rw [hu]; rfl⟩
theorem left_set (m : List (Option ByteArray)) : ∀ (i : Nat) (t : ByteArray) (hi : i < m.length), m[i] = none → left (m.set i (some t)) + 1 = left m := by
 induction m with
 | nil => intro i t hi; simp at hi
 | cons o m ih =>
  intro i t hi hu
  cases i with
  | zero =>
   simp at hu
   subst hu
   simp [left]
  | succ i =>
   have h := ih i t (by simpa using hi) (by simpa using hu)
   unfold left at h ⊢
   rw [List.set_cons_succ, List.countP_cons, List.countP_cons]
   omega
theorem size_set (m : List (Option ByteArray)) : ∀ (i : Nat) (t : ByteArray) (hi : i < m.length), m[i] = none → size (m.set i (some t)) = size m + t.size := by
 induction m with
 | nil => intro i t hi; simp at hi
 | cons o m ih =>
  intro i t hi hu
  cases i with
  | zero =>
   simp at hu
   subst hu
   have he : ByteArray.empty.size = 0 := rfl
   simp [size, he]
   omega
  | succ i =>
   have h := ih i t (by simpa using hi) (by simpa using hu)
   unfold size at h ⊢
   rw [List.set_cons_succ, List.map_cons, List.map_cons, List.sum_cons, List.sum_cons]
   omega
def InBox (b gp gh : Nat) : Nat → Prop := fun k => k = b ∨ k = gp ∨ k = gh
def zDk (b gp gh : Nat) (m : List (Option ByteArray)) (at' of' : Int) (t : ByteArray) (w : World) (e : Ending) (w' : World) : Prop :=
 e = .returned (.int .i64 ((putOf m at' of' t).2 : Nat)) ∧ BoxAt w' b gp gh (putOf m at' of' t).1 ∧ Touch (InBox b gp gh) w w'
theorem boxAt_same {m : List (Option ByteArray)} (h : BoxAt w b gp gh m) (hb : Below w.heap.size w w') : BoxAt w' b gp gh m := ⟨h.1.below hb, h.2.1.below hb, h.2.2.below hb⟩
theorem zBe {m : List (Option ByteArray)} {t : ByteArray} {e : Nat} (hv : putOf m at' of' t = (m, e)) (h : BoxAt w b gp gh m) (hb : Below w.heap.size w w') :
  zDk b gp gh m at' of' t w (.returned (.int .i64 (e : Int))) w' := by
 refine ⟨by rw [hv], ?_, Touch.of_below hb⟩
 rw [hv]; exact boxAt_same h hb
theorem put_arg (b gp gh : Nat) (m : List (Option ByteArray)) (at' of' : Int) (t : ByteArray) (w : World) (h : BoxAt w b gp gh m) (ho : of' ≠ m.length) :
  Calls Tryz.prog 105 #[.pointer (some ⟨b, 0, none⟩), .agg #[.int .i64 at', .int .i64 of', .string t]] w (zDk b gp gh m at' of' t w) := by
 have hv := hid (show putOf m at' of' t = (m, 1) by rw [putOf, if_pos ho])
 have hb := h.1.lt
 have c0 : w.cell? ⟨b, 0, none⟩ = some (.slice (some ⟨gp, 0, none⟩) m.length m.length) := h.1.cell 0
 have hne : (of' != (m.length : Int)) = true := by rw [bne_iff_ne]; exact ho
 have H := hid h
 clear h ho
 go_enter Tryz.func105, Tryz.ntmps105
 go_wp2
 go_quiet (fail)
 go_wp2
 go_ret
 exact zBe (e := 1) hv.out H.out (below_drewN ((Below.refl _ _).alloc (Nat.le_refl _) _) _)
theorem put_range (b gp gh : Nat) (m : List (Option ByteArray)) (at' : Int) (t : ByteArray) (w : World) (h : BoxAt w b gp gh m) (ha : at' < 0 ∨ (m.length : Int) ≤ at') :
  Calls Tryz.prog 105 #[.pointer (some ⟨b, 0, none⟩), .agg #[.int .i64 at', .int .i64 (m.length : Int), .string t]] w (zDk b gp gh m at' m.length t w) := by
 have hv := hid (show putOf m at' m.length t = (m, 2) by rw [putOf, if_neg (by simp), if_pos ha])
 have hb := h.1.lt
 have c0 : w.cell? ⟨b, 0, none⟩ = some (.slice (some ⟨gp, 0, none⟩) m.length m.length) := h.1.cell 0
 have hne : ((m.length : Int) != (m.length : Int)) = false := by simp
 have hd : (decide (at' < 0) || decide ((m.length : Int) ≤ at')) = true := by simp only [Bool.or_eq_true, decide_eq_true_eq]; exact ha
 have H := hid h
 clear h
 by_cases h0 : at' < 0
 ·clear ha
  go_enter Tryz.func105, Tryz.ntmps105
  go_wp2
  go_quiet (fail)
  go_wp2
  go_ret
  exact zBe (e := 2) hv.out H.out (below_drewN ((Below.refl _ _).alloc (Nat.le_refl _) _) _)
 ·have h1 : (m.length : Int) ≤ at' := by omega
  clear ha hd
  go_enter Tryz.func105, Tryz.ntmps105
  go_wp2
  go_quiet (fail)
  go_wp2
  go_ret
  exact zBe (e := 2) hv.out H.out (below_drewN ((Below.refl _ _).alloc (Nat.le_refl _) _) _)
theorem str_eq (a b : ByteArray) : (a.toList == b.toList) = decide (a = b) := by
 rw [ByteArray.toList_eq, ByteArray.toList_eq]
 by_cases h : a = b
 ·subst h; simp
 ·rw [decide_eq_false h]
  simp only [beq_eq_false_iff_ne, ne_eq]
  intro h2
  apply h
  cases a; cases b
  congr
  simpa using h2
theorem put_there (b gp gh : Nat) (m : List (Option ByteArray)) (i : Nat) (u t : ByteArray) (w : World) (h : BoxAt w b gp gh m) (hi : i < m.length) (hu : m[i] = some u) :
  Calls Tryz.prog 105 #[.pointer (some ⟨b, 0, none⟩), .agg #[.int .i64 (i : Int), .int .i64 (m.length : Int), .string t]] w (zDk b gp gh m i m.length t w) := by
 have hv0 : putOf m i m.length t = (m, if u = t then 0 else 6) := by
  rw [putOf, if_neg (by simp), if_neg (by omega), Int.toNat_natCast, List.getD, List.getElem?_eq_getElem hi, hu]
  simp only [Option.getD_some]
  split <;> rfl
 have hb := h.1.lt
 have hgp := h.2.1.lt
 have hgh := h.2.2.lt
 have c0 : w.cell? ⟨b, 0, none⟩ = some (.slice (some ⟨gp, 0, none⟩) m.length m.length) := h.1.cell 0
 have c1 : w.cell? ⟨b, 1, none⟩ = some (.slice (some ⟨gh, 0, none⟩) m.length m.length) := h.1.cell 1
 have d1 : w.cell? ⟨gp, i, none⟩ = some (.string u) := by rw [h.2.1.cell i, List.getElem?_map, List.getElem?_eq_getElem hi, hu]; rfl
 have d2 : w.cell? ⟨gh, i, none⟩ = some (.bool true) := by rw [h.2.2.cell i, List.getElem?_map, List.getElem?_eq_getElem hi, hu]; rfl
 have hne : ((m.length : Int) != (m.length : Int)) = false := by simp
 have hi1 : (i : Int) < (m.length : Int) := by omega
 have H := hid h
 clear h hu
 by_cases hut : u = t
 ·have hv := hid (show putOf m i m.length t = (m, 0) by rw [hv0, if_pos hut])
  have hs : (u.toList == t.toList) = true := by rw [str_eq, decide_eq_true hut]
  clear hv0 hut
  go_enter Tryz.func105, Tryz.ntmps105
  go_wp2
  go_quiet (fail)
  go_wp2
  go_quiet (fail)
  go_wp2
  go_quiet (fail)
  go_wp2
  go_ret
  exact zBe (e := 0) hv.out H.out (by repeat (first | exact (Below.refl _ _).alloc (Nat.le_refl _) _ | refine below_drewN ?_ _))
 ·have hv := hid (show putOf m i m.length t = (m, 6) by rw [hv0, if_neg hut])
  have hs : (u.toList == t.toList) = false := by rw [str_eq, decide_eq_false hut]
  clear hv0 hut
  go_enter Tryz.func105, Tryz.ntmps105
  go_wp2
  go_quiet (fail)
  go_wp2
  go_quiet (fail)
  go_wp2
  go_quiet (fail)
  go_wp2
  go_ret
  exact zBe (e := 6) hv.out H.out (by repeat (first | exact (Below.refl _ _).alloc (Nat.le_refl _) _ | refine below_drewN ?_ _))
theorem put_long (b gp gh : Nat) (m : List (Option ByteArray)) (i : Nat) (t : ByteArray) (w : World) (h : BoxAt w b gp gh m) (hi : i < m.length) (hu : m[i] = none) (hsz : size m ≤ 524288) (hl : 524288 < size m + t.size) (_ht : t.size ≤ maxLen) :
  Calls Tryz.prog 105 #[.pointer (some ⟨b, 0, none⟩), .agg #[.int .i64 (i : Int), .int .i64 (m.length : Int), .string t]] w (zDk b gp gh m i m.length t w) := by
 have hv := hid (show putOf m i m.length t = (m, 4) by
  rw [putOf, if_neg (by simp), if_neg (by omega), Int.toNat_natCast, List.getD, List.getElem?_eq_getElem hi, hu]
  simp only [Option.getD_some]
  rw [if_pos hl])
 have hb := h.1.lt
 have hgp := h.2.1.lt
 have hgh := h.2.2.lt
 have c0 : w.cell? ⟨b, 0, none⟩ = some (.slice (some ⟨gp, 0, none⟩) m.length m.length) := h.1.cell 0
 have c1 : w.cell? ⟨b, 1, none⟩ = some (.slice (some ⟨gh, 0, none⟩) m.length m.length) := h.1.cell 1
 have c3 : w.cell? ⟨b, 3, none⟩ = some (.int .i64 (size m : Nat)) := h.1.cell 3
 have d2 : w.cell? ⟨gh, i, none⟩ = some (.bool false) := by rw [h.2.2.cell i, List.getElem?_map, List.getElem?_eq_getElem hi, hu]; rfl
 have hne : ((m.length : Int) != (m.length : Int)) = false := by simp
 have hi1 : (i : Int) < (m.length : Int) := by omega
 have H := hid h
 clear h hu
 go_enter Tryz.func105, Tryz.ntmps105
 go_wp2
 go_quiet (fail)
 go_wp2
 go_quiet (fail)
 go_wp2
 go_quiet (fail)
 go_wp2
 go_ret
 exact zBe (e := 4) hv.out H.out (by repeat (first | exact (Below.refl _ _).alloc (Nat.le_refl _) _ | refine below_drewN ?_ _))
theorem put_in (b gp gh : Nat) (m : List (Option ByteArray)) (i : Nat) (t : ByteArray) (w : World) (h : BoxAt w b gp gh m) (hi : i < m.length) (hu : m[i] = none) (hl : size m + t.size ≤ 524288) (hm : m.length ≤ 4096) :
  Calls Tryz.prog 105 #[.pointer (some ⟨b, 0, none⟩), .agg #[.int .i64 (i : Int), .int .i64 (m.length : Int), .string t]] w (zDk b gp gh m i m.length t w) := by
 have hv := hid (show putOf m i m.length t = (m.set i (some t), 0) by
  rw [putOf, if_neg (by simp), if_neg (by omega), Int.toNat_natCast, List.getD, List.getElem?_eq_getElem hi, hu]
  simp only [Option.getD_some]
  rw [if_neg (by omega)])
 have hb := h.1.lt
 have hgp := h.2.1.lt
 have hgh := h.2.2.lt
 have n1 : b ≠ gp := h.1.ne h.2.1 (by decide)
 have n2 : b ≠ gh := h.1.ne h.2.2 (by decide)
 have n3 : gp ≠ gh := h.2.1.ne h.2.2 (by decide)
 have c0 : w.cell? ⟨b, 0, none⟩ = some (.slice (some ⟨gp, 0, none⟩) m.length m.length) := h.1.cell 0
 have c1 : w.cell? ⟨b, 1, none⟩ = some (.slice (some ⟨gh, 0, none⟩) m.length m.length) := h.1.cell 1
 have c2 : w.cell? ⟨b, 2, none⟩ = some (.int .i64 (left m : Nat)) := h.1.cell 2
 have c3 : w.cell? ⟨b, 3, none⟩ = some (.int .i64 (size m : Nat)) := h.1.cell 3
 have d1 : w.cell? ⟨gp, i, none⟩ = some (.string ByteArray.empty) := by rw [h.2.1.cell i, List.getElem?_map, List.getElem?_eq_getElem hi, hu]; rfl
 have d2 : w.cell? ⟨gh, i, none⟩ = some (.bool false) := by rw [h.2.2.cell i, List.getElem?_map, List.getElem?_eq_getElem hi, hu]; rfl
 have f1 := h.2.1.free i
 have f2 := h.2.2.free i
 have f3 := h.1.free 2
 have f4 := h.1.free 3
 have hne : ((m.length : Int) != (m.length : Int)) = false := by simp
 have hi1 : (i : Int) < (m.length : Int) := by omega
 have H := hid h
 have Hu := hid hu
 clear h hu
 go_enter Tryz.func105, Tryz.ntmps105
 go_wp2
 go_quiet (fail)
 go_wp2
 go_quiet (fail)
 go_wp2
 go_quiet (fail)
 go_wp2
 generalize hw1 : (((w.alloc (Obj.cells #[.int .i64 (i : Int), .int .i64 (m.length : Int), .string t] 27)).drewN _).drewN _).drewN _ = w1
 have H1 : BoxAt w1 b gp gh m := by rw [← hw1]; exact ⟨((((H.out.1.alloc _).drewN _).drewN _).drewN _), ((((H.out.2.1.alloc _).drewN _).drewN _).drewN _), ((((H.out.2.2.alloc _).drewN _).drewN _).drewN _)⟩
 have P1 : Blk w1 w.heap.size [.int .i64 (i : Int), .int .i64 (m.length : Int), .string t] 27 := by rw [← hw1]; exact ((((Blk.new w _ _).drewN _).drewN _).drewN _)
 have T1 : Touch (InBox b gp gh) w w1 := by rw [← hw1]; exact (((((Touch.refl _ _).alloc _).drewN _).drewN _).drewN _)
 clear hw1 c0 c1 c2 c3 d1 d2 f1 f2 f3 f4 H
 obtain ⟨B1, B2, B3⟩ := H1
 have m0 : b ≠ w.heap.size := by omega
 have m1 : gp ≠ w.heap.size := by omega
 have m2 : gh ≠ w.heap.size := by omega
 have c0 : w1.cell? ⟨b, 0, none⟩ = some (.slice (some ⟨gp, 0, none⟩) m.length m.length) := B1.cell 0
 have c1 : w1.cell? ⟨b, 1, none⟩ = some (.slice (some ⟨gh, 0, none⟩) m.length m.length) := B1.cell 1
 have p0 : w1.cell? ⟨w.heap.size, 0, none⟩ = some (.int .i64 (i : Int)) := P1.cell 0
 have p2 : w1.cell? ⟨w.heap.size, 2, none⟩ = some (.string t) := P1.cell 2
 have d1 : w1.cell? ⟨gp, i, none⟩ = some (.string ByteArray.empty) := by rw [B2.cell i, List.getElem?_map, List.getElem?_eq_getElem hi, Hu.out]; rfl
 have d2 : w1.cell? ⟨gh, i, none⟩ = some (.bool false) := by rw [B3.cell i, List.getElem?_map, List.getElem?_eq_getElem hi, Hu.out]; rfl
 have f1 := B2.free i
 have f2 := B3.free i
 have HB1 := hid B1
 have HB2 := hid B2
 have HB3 := hid B3
 have HP1 := hid P1
 clear B1 B2 B3 P1
 go_cut [3] (fun v wx => v = .pointer (some ⟨w.heap.size, 0, none⟩) ∧ Blk wx b [.slice (some ⟨gp, 0, none⟩) m.length m.length, .slice (some ⟨gh, 0, none⟩) m.length m.length, .int .i64 (left m : Nat), .int .i64 (size m : Nat)] 166 ∧
  Blk wx gp ((m.map pStr).set i (.string t)) 9 ∧ Blk wx gh ((m.map pHas).set i (.bool true)) 4 ∧ Blk wx w.heap.size [.int .i64 (i : Int), .int .i64 (m.length : Int), .string t] 27 ∧ Touch (InBox b gp gh) w wx)
 case first =>
  go_region
  all_goals go_wp2_with fail
  all_goals go_meet
  all_goals
   refine ⟨rfl, ?_, ?_, ?_, ?_, ?_⟩
   ·repeat (first | exact HB1.out | refine Blk.drew ?_ | refine Blk.set_other ?_ (by assumption) _)
   ·repeat (first | exact HB2.out | refine Blk.drew ?_ | refine Blk.set_other ?_ (by assumption) _ | refine Blk.set ?_ _ _)
   ·repeat (first | exact HB3.out | refine Blk.drew ?_ | refine Blk.set_other ?_ (Ne.symm n3) _ | refine Blk.set ?_ _ _)
   ·repeat (first | exact HP1.out | refine Blk.drew ?_ | refine Blk.set_other ?_ (Ne.symm m1) _ | refine Blk.set_other ?_ (Ne.symm m2) _)
   ·repeat (first | exact T1 | refine Touch.drew ?_ | refine Touch.set ?_ (Or.inl (Or.inr (Or.inl rfl))) _ | refine Touch.set ?_ (Or.inl (Or.inr (Or.inr rfl))) _)
 case rest =>
  obtain ⟨rfl, B1, B2, B3, P1, T2⟩ := hcut
  have c2 : wc.cell? ⟨b, 2, none⟩ = some (.int .i64 (left m : Nat)) := B1.cell 2
  have f3 := B1.free 2
  have hl1 : 1 ≤ left m := left_pos hi Hu.out
  have hl2 : left m ≤ m.length := List.countP_le_length
  have HB1 := hid B1
  have HB2 := hid B2
  have HB3 := hid B3
  have HP1 := hid P1
  clear B1 B2 B3 P1 c0 c1 p0 p2 d1 d2 f1 f2
  go_wp2
  have hw2 := HB1.out.set 2 (.int .i64 ((left m : Int) - 1))
  have c3 : (wc.setCell ⟨b, 2, none⟩ (.int .i64 ((left m : Int) - 1))).cell? ⟨b, 3, none⟩ = some (.int .i64 (size m : Nat)) := hw2.cell 3
  have p2 : (wc.setCell ⟨b, 2, none⟩ (.int .i64 ((left m : Int) - 1))).cell? ⟨w.heap.size, 2, none⟩ = some (.string t) := (HP1.out.set_other (Ne.symm m0) _).cell 2
  have f4 := hw2.free 3
  have Hw2 := hid hw2
  clear hw2
  go_region
  all_goals go_wp2
  all_goals go_ret
  all_goals
   have hbx : Blk (((wc.setCell ⟨b, 2, none⟩ (.int .i64 ((left m : Int) - 1))).setCell ⟨b, 3, none⟩ (.int .i64 ((size m : Int) + (t.size : Int)))).drew) b [.slice (some ⟨gp, 0, none⟩) m.length m.length, .slice (some ⟨gh, 0, none⟩) m.length m.length, .int .i64 ((left m : Int) - 1), .int .i64 ((size m : Int) + (t.size : Int))] 166 := Hw2.out.set 3 _
   have e1 : ((left m : Int) - 1) = ((left (m.set i (some t)) : Nat) : Int) := by have := left_set m i t hi Hu.out; omega
   have e2 : ((size m : Int) + (t.size : Int)) = ((size (m.set i (some t)) : Nat) : Int) := by rw [size_set m i t hi Hu.out]; omega
   refine ⟨by rw [hv.out]; rfl, ?_, ?_⟩
   ·rw [hv.out]
    refine ⟨?_, ?_, ?_⟩
    ·show Blk _ b [.slice (some ⟨gp, 0, none⟩) (m.set i (some t)).length (m.set i (some t)).length, .slice (some ⟨gh, 0, none⟩) (m.set i (some t)).length (m.set i (some t)).length, .int .i64 (left (m.set i (some t)) : Nat), .int .i64 (size (m.set i (some t)) : Nat)] _
     rw [List.length_set, ← e1, ← e2]
     exact hbx
    ·show Blk _ gp ((m.set i (some t)).map pStr) _
     rw [List.map_set]
     exact (HB2.out.set_other (Ne.symm n1) _).set_other (Ne.symm n1) _
    ·show Blk _ gh ((m.set i (some t)).map pHas) _
     rw [List.map_set]
     exact (HB3.out.set_other (Ne.symm n2) _).set_other (Ne.symm n2) _
   ·exact ((T2.set (Or.inl (Or.inl rfl)) _).set (Or.inl (Or.inl rfl)) _).drew
theorem put_any (b gp gh : Nat) (m : List (Option ByteArray)) (at' of' : Int) (t : ByteArray) (w : World) (h : BoxAt w b gp gh m) (hm : m.length ≤ 4096) (hsz : size m ≤ 524288) (ht : t.size ≤ maxLen) :
  Calls Tryz.prog 105 #[.pointer (some ⟨b, 0, none⟩), .agg #[.int .i64 at', .int .i64 of', .string t]] w (zDk b gp gh m at' of' t w) := by
 by_cases ho : of' = m.length
 ·subst ho
  by_cases ha : at' < 0 ∨ (m.length : Int) ≤ at'
  ·exact put_range b gp gh m at' t w h ha
  ·obtain ⟨i, rfl⟩ := Int.eq_ofNat_of_zero_le (show 0 ≤ at' by omega)
   have hi : i < m.length := by omega
   cases hu : m[i] with
   | some u => exact put_there b gp gh m i u t w h hi hu
   | none =>
    by_cases hl : size m + t.size ≤ 524288
    ·exact put_in b gp gh m i t w h hi hu hl hm
    ·exact put_long b gp gh m i t w h hi hu hsz (by omega) ht
 ·exact put_arg b gp gh m at' of' t w h ho
theorem putOf_length (m : List (Option ByteArray)) (at' of' : Int) (t : ByteArray) : (putOf m at' of' t).1.length = m.length := by
 unfold putOf
 split
 ·rfl
 ·split
  ·rfl
  ·split
   ·split <;> rfl
   ·split
    ·rfl
    ·simp
theorem putOf_size (m : List (Option ByteArray)) (at' of' : Int) (t : ByteArray) (h : size m ≤ 524288) : size (putOf m at' of' t).1 ≤ 524288 := by
 unfold putOf
 split
 ·exact h
 ·split
  ·exact h
  ·split
   ·split <;> exact h
   ·next hn ha hq =>
    split
    ·exact h
    ·next hl =>
     have hi : at'.toNat < m.length := by omega
     rw [List.getD, List.getElem?_eq_getElem hi] at hq
     show size (m.set at'.toNat (some t)) ≤ 524288
     rw [size_set m _ t hi (by simpa using hq)]
     omega
theorem zCl : (Tryz.prog.info? 3).map (fun i => (i.zero, i.size, i.bytes)) = some (some (.int .i64 0), 1, 8) := by kernel_rfl
def zCx (m : List (Option ByteArray)) : Nat → List Nat
 | 0 => []
 | k + 1 => if (m.getD k none).isNone then zCx m k ++ [k] else zCx m k
def firstTo (m : List (Option ByteArray)) (n : Int) (k : Nat) : List Nat := (zCx m k).take n.toNat
theorem zGo (m : List (Option ByteArray)) (k : Nat) : (zCx m k).length ≤ k := by
 induction k with
 | zero => simp [zCx]
 | succ k ih =>
  rw [zCx]
  split
  ·rw [List.length_append, List.length_singleton]; omega
  ·omega
theorem zFA (m : List (Option ByteArray)) (n : Int) (k : Nat) : (firstTo m n k).length ≤ k := by
 unfold firstTo; rw [List.length_take]; have := zGo m k; omega
theorem zJi {m : List (Option ByteArray)} {n : Int} (h : (m.getD k none).isNone = false) : firstTo m n (k + 1) = firstTo m n k := by
 unfold firstTo; rw [zCx, if_neg (by rw [h]; simp)]
theorem zHB {m : List (Option ByteArray)} {n : Int} (h : (m.getD k none).isNone = true) (hl : ((firstTo m n k).length : Int) < n) : firstTo m n (k + 1) = firstTo m n k ++ [k] := by
 unfold firstTo at hl ⊢
 rw [List.length_take] at hl
 have h1 : (zCx m k).length < n.toNat := by omega
 rw [zCx, if_pos h, List.take_append, List.take_of_length_le (by omega)]
 congr 1
 apply List.take_of_length_le
 simp
 omega
theorem zHf {m : List (Option ByteArray)} {n : Int} (h : (m.getD k none).isNone = true) (hl : ¬ ((firstTo m n k).length : Int) < n) : firstTo m n (k + 1) = firstTo m n k := by
 unfold firstTo at hl ⊢
 rw [List.length_take] at hl
 rw [zCx, if_pos h, List.take_append]
 have : n.toNat - (zCx m k).length = 0 := by omega
 rw [this]
 simp
def numCells (l : List Nat) : List Value := l.map fun i => Value.int .i64 (i : Nat)
theorem missing_any (b gp gh : Nat) (m : List (Option ByteArray)) (n : Int) (w : World) (h : BoxAt w b gp gh m) (hm : m.length ≤ 4096) :
  Calls Tryz.prog 64 #[.pointer (some ⟨b, 0, none⟩), .int .i64 n] w fun e w' => ∃ v, e = .returned v ∧ w'.ownsRow w.heap.size 3 1 v (firstTo m n m.length).length (numCells (firstTo m n m.length)) ∧ Below w.heap.size w w' := by
 have c1 : w.cell? ⟨b, 1, none⟩ = some (.slice (some ⟨gh, 0, none⟩) m.length m.length) := h.1.cell 1
 have hgh := h.2.2.lt
 have H := hid h
 clear h
 go_enter Tryz.func64, Tryz.ntmps64
 go_wp2
 go_loopw [5, 15] (fun v i wr => ∃ k : Nat, k ≤ m.length ∧ i = .int .i64 k ∧ wr.ownsRow w.heap.size 3 1 v (firstTo m n k).length (numCells (firstTo m n k)) ∧ Below w.heap.size w wr) (fun _ i _ => m.length - (intOf i).toNat)
 case atStart => exact ⟨0, by omega, rfl, (by simpa [firstTo, zCx, numCells] using World.ownsRow_nil _ _ _ _), Below.refl _ _⟩
 case round =>
  obtain ⟨k, hk, rfl, hown, hbel⟩ := hrel
  by_cases hlt : k < m.length
  ·obtain ⟨hs, hhs⟩ : ∃ hs, (m.getD k none).isNone = hs := ⟨_, rfl⟩
   have d : wr.cell? ⟨gh, k, none⟩ = some (.bool (!hs)) := by
    rw [hbel.cell (p := ⟨gh, k, none⟩) hgh, H.out.2.2.cell k, List.getElem?_map, List.getElem?_eq_getElem hlt, ← hhs, List.getD, List.getElem?_eq_getElem hlt]
    cases m[k] <;> simp [pHas]
   have Hhs := hid hhs
   have hfl := zFA m n k
   obtain ⟨ad, cap, rfl⟩ := zAe hown
   clear hhs
   cases hs with
   | false =>
    have hst := hid (zJi (n := n) Hhs.out)
    go_wp2
    go_roundw
    case rel => exact ⟨k + 1, by omega, by go_num, by rw [hst.out]; exact hown, hbel⟩
    case measure => simp [intOf]; omega
   | true =>
    obtain ⟨j, hj⟩ : ∃ j, j = (firstTo m n k).length := ⟨_, rfl⟩
    rw [← hj] at hown hfl
    rw [← hj]
    have Hj := hid hj
    by_cases hjn : (j : Int) < n
    ·have hst := hid (zHB (n := n) Hhs.out (by rw [← hj]; exact hjn))
     clear hj
     go_wp2_with (at_builtin; refine zCS rfl _ _ 130 rfl w.heap.size 3 1 8 Tryz.underlying130 _ zCl rfl (by decide) _ _ _ rfl hown [.int .i64 (k : Int)] rfl rfl (by simp [Value.oneCell']) ?c1 ?c2 ?c3 ?_)
     case c1 => unfold maxLen; omega
     case c2 => omega
     case c3 => exact hbel.size
     intro v' w1 hown3 hb3
     have hown4 : Hid (w1.ownsRow w.heap.size 3 1 v' (firstTo m n (k + 1)).length (numCells (firstTo m n (k + 1)))) := by
      show w1.ownsRow w.heap.size 3 1 v' _ _
      rw [hst.out, List.length_append, List.length_singleton, ← Hj.out]
      unfold numCells at hown3 ⊢
      rw [List.map_append]
      exact hown3
     clear hown3
     go_wp2
     go_roundw
     case rel => exact ⟨k + 1, by omega, by go_num, hown4.out, hbel.trans hb3⟩
     case measure => simp [intOf]; omega
    ·have hst := hid (zHf (n := n) Hhs.out (by rw [← hj]; exact hjn))
     clear hj
     go_wp2
     go_roundw
     case rel => exact ⟨k + 1, by omega, by go_num, by rw [hst.out, ← Hj.out]; exact hown, hbel⟩
     case measure => simp [intOf]; omega
  ·have hkm := hid (show k = m.length by omega)
   go_wp2
   go_ret
   exact ⟨_, rfl, by rw [← hkm.out]; exact hown, hbel⟩
def flat (ss : List ByteArray) : List UInt8 := ss.flatMap fun s => s.data.toList
def total (ss : List ByteArray) : Nat := (ss.map fun s => s.size).sum
theorem flat_length (ss : List ByteArray) : (flat ss).length = total ss := by
 unfold flat total
 induction ss with
 | nil => rfl
 | cons s ss ih => rw [List.flatMap_cons, List.length_append, ih, List.map_cons, List.sum_cons]; simp
theorem flat_snoc (ss : List ByteArray) (s : ByteArray) : flat (ss ++ [s]) = flat ss ++ s.data.toList := by unfold flat; rw [List.flatMap_append]; simp
theorem zDM (ss : List ByteArray) (s : ByteArray) : total (ss ++ [s]) = total ss + s.size := by unfold total; rw [List.map_append, List.sum_append]; simp
theorem zDJ (ss : List ByteArray) (k : Nat) : total (ss.take k) ≤ total ss := by
 unfold total
 conv => rhs; rw [← List.take_append_drop k ss, List.map_append, List.sum_append]
 omega
theorem at_same (ss : List ByteArray) (a b : Nat) (h : a = b) (ha : a < ss.length) : ss[a] = ss[b]'(h ▸ ha) := by subst h; rfl
theorem join_many (g cap : Nat) (ss : List ByteArray) (n : Nat) (w : World) (hn : ss.length = n) (h2 : 2 ≤ n) (hmax : n ≤ 1048576) (ht : total ss ≤ 1099511627776) (hg : g < w.heap.size)
  (hc : ∀ k (hk : k < ss.length), w.cell? ⟨g, k, none⟩ = some (.string ss[k])) (hcap : n ≤ cap) (hcap2 : cap ≤ 9223372036854775807) :
  Calls Tryz.prog 123 #[.slice (some ⟨g, 0, none⟩) n cap, .string ByteArray.empty] w fun e w' => e = .returned (.string ⟨(flat ss).toArray⟩) ∧ Below w.heap.size w w' := by
 have hse : ByteArray.empty.size = 0 := rfl
 have Hn := hid hn
 have Hc := hid hc
 clear hc hn
 go_enter Tryz.func123, Tryz.ntmps123
 go_wp2
 go_loop [5, 41] (fun t i => ∃ k : Nat, k ≤ n ∧ i = .int .i64 k ∧ t = .int .i64 (total (ss.take k) : Nat)) (fun _ i => n - (intOf i).toNat)
 case atStart => exact ⟨0, by omega, rfl, rfl⟩
 case round =>
  obtain ⟨k, hk, rfl, rfl⟩ := hrel
  by_cases hlt : k < n
  ·have hkl : k < ss.length := by rw [Hn.out]; exact hlt
   have hck := Hc.out k hkl
   have hsn := hid (show ss.take (k + 1) = ss.take k ++ [ss[k]] by rw [List.take_succ_eq_append_getElem hkl])
   have h1 := zDJ ss (k + 1)
   rw [hsn.out, zDM] at h1
   have hT : total (ss.take k) + ss[k].size ≤ 1099511627776 := by omega
   have Hkl := hid hkl
   clear h1
   go_wp2
   go_round
   case rel => exact ⟨k + 1, by omega, by go_num, zEV (by rw [hsn.out, zDM]; omega)⟩
   case measure => simp [intOf]; omega
  ·have hkn := hid (show ss.take k = ss from List.take_of_length_le (by rw [Hn.out]; omega))
   have hl0 : 0 < ss.length := by rw [Hn.out]; omega
   have hc0 := Hc.out 0 hl0
   have Hl0 := hid hl0
   rw [hkn.out]
   go_wp2_with fail
   refine (Tryz.Builder_Grow_fresh w.heap.size w.heap.size (total ss) _ (Nat.le_refl _) (heap_alloc_new w _) (by simp) (by omega)).mono ?_
   rintro e w1 ⟨rfl, hat1, hb1⟩
   have hb01 : Below w.heap.size w w1 := (((Below.refl w.heap.size w).alloc (Nat.le_refl _) _)).trans hb1
   have hs1 := hb01.size
   have hc01 : w1.cell? ⟨g, 0, none⟩ = some (.string ss[0]) := by rw [hb01.cell (p := ⟨g, 0, none⟩) hg]; exact hc0
   have Hat1 := hid (show Lib.IsBuilder 134 5 w.heap.size w.heap.size [] w1 from Or.inr hat1)
   have h0t := zDJ ss 1
   have e1 : ss.take 1 = [ss[0]] := by
    have := List.take_succ_eq_append_getElem (l := ss) (i := 0) Hl0.out
    exact this
   rw [e1] at h0t
   have h0s : ss[0].size ≤ total ss := by simpa [total] using h0t
   have E1 := hid e1
   clear hat1 hb1 h0t e1
   go_wp2_with fail
   refine (zBL w.heap.size w.heap.size _ _ _ Hat1.out (by simp; omega) (by omega)).mono ?_
   rintro e w2 ⟨rfl, hat2, hb2⟩
   have hb02 := hb01.trans hb2
   have hs2 := hb02.size
   have Hat2 : Hid (Lib.IsBuilder 134 5 w.heap.size w.heap.size (Lib.byteCells (flat (ss.take (0 + 1)))) w2) := by
    refine Or.inr ?_
    rw [E1.out]
    simpa [flat, Lib.byteCells, Lib.strCells] using hat2
   clear hat2 hb2
   have hcap1 : (1 : Int) < (cap : Int) := by omega
   have hn1 : (1 : Int) < (n : Int) := by omega
   go_wp2
   go_loopw [65] (fun i wr => ∃ j : Nat, j ≤ n - 1 ∧ i = .int .i64 j ∧ Hid (Lib.IsBuilder 134 5 w.heap.size w.heap.size (Lib.byteCells (flat (ss.take (j + 1)))) wr) ∧ Below w.heap.size w wr ∧ w.heap.size ≤ wr.heap.size) (fun i _ => n - 1 - (intOf i).toNat)
   case atStart => exact ⟨0, by omega, rfl, Hat2, hb02, hs2⟩
   case round =>
    obtain ⟨j, hj, rfl, hbu, hbel, hsz⟩ := hrel
    by_cases hjl : j < n - 1
    ·have hjs : 1 + j < ss.length := by rw [Hn.out]; omega
     have hcj : wr.cell? ⟨g, 1 + j, none⟩ = some (.string ss[1 + j]) := by rw [hbel.cell (p := ⟨g, 1 + j, none⟩) hg]; exact Hc.out (1 + j) hjs
     have hsn := hid (show ss.take (j + 1 + 1) = ss.take (j + 1) ++ [ss[1 + j]] by
      have h := List.take_succ_eq_append_getElem (l := ss) (i := j + 1) (by omega)
      rw [h]
      congr 2
      exact at_same ss _ _ (by omega) _)
     have h1 := zDJ ss (j + 1 + 1)
     rw [hsn.out, zDM] at h1
     have hT : total (ss.take (j + 1)) + ss[1 + j].size ≤ 1099511627776 := by omega
     have Hjs := hid hjs
     clear h1
     go_wp2_with fail
     refine (zBL w.heap.size w.heap.size _ _ _ hbu.out (by rw [Lib.byteCells_length, flat_length, hse]; omega) (by omega)).mono ?_
     rintro e w3 ⟨rfl, hat3, hb3⟩
     have hb03 := hbel.trans hb3
     have hs3 := hb03.size
     have Hat3 : Hid (Lib.IsBuilder 134 5 w.heap.size w.heap.size (Lib.byteCells (flat (ss.take (j + 1)))) w3) := by
      refine Or.inr ?_
      have he : Lib.strCells ByteArray.empty = [] := rfl
      rw [he, List.append_nil] at hat3
      exact hat3
     have hcj3 : w3.cell? ⟨g, 1 + j, none⟩ = some (.string ss[1 + j]) := by rw [hb03.cell (p := ⟨g, 1 + j, none⟩) hg]; exact Hc.out (1 + j) Hjs.out
     clear hat3 hb3
     go_wp2_with fail
     refine (zBL w.heap.size w.heap.size _ _ _ Hat3.out (by rw [Lib.byteCells_length, flat_length]; omega) (by omega)).mono ?_
     rintro e w4 ⟨rfl, hat4, hb4⟩
     have hb04 := hb03.trans hb4
     have hs4 := hb04.size
     have Hat4 : Hid (Lib.IsBuilder 134 5 w.heap.size w.heap.size (Lib.byteCells (flat (ss.take (j + 1 + 1)))) w4) := by
      refine Or.inr ?_
      rw [hsn.out, flat_snoc]
      simpa [Lib.byteCells, Lib.strCells] using hat4
     clear hat4 hb4
     go_wp2
     go_roundw
     case rel => exact ⟨j + 1, by omega, by go_num, Hat4, hb04, hs4⟩
     case measure => simp [intOf]; omega
    ·have hjn := hid (show ss.take (j + 1) = ss from List.take_of_length_le (by rw [Hn.out]; omega))
     go_wp2_with fail
     refine (Tryz.Builder_String_any w.heap.size w.heap.size _ _ hbu.out (by omega)).mono ?_
     rintro e w3 ⟨rfl, hb3⟩
     rw [hjn.out]
     go_wp2
     go_ret
     exact ⟨rfl, hbel.trans hb3⟩
theorem join_one (g cap : Nat) (s : ByteArray) (w : World) (hc : w.cell? ⟨g, 0, none⟩ = some (.string s)) :
  Calls Tryz.prog 123 #[.slice (some ⟨g, 0, none⟩) 1 cap, .string ByteArray.empty] w fun e w' => e = .returned (.string s) ∧ w = w' := by
 go_enter Tryz.func123, Tryz.ntmps123
 go_wp2
 go_ret
 exact ⟨rfl, rfl⟩
theorem join_any (g cap : Nat) (ss : List ByteArray) (n : Nat) (w : World) (hn : ss.length = n) (h1 : 1 ≤ n) (hmax : n ≤ 1048576) (ht : total ss ≤ 1099511627776) (hg : g < w.heap.size)
  (hc : ∀ k (hk : k < ss.length), w.cell? ⟨g, k, none⟩ = some (.string ss[k])) (hcap : n ≤ cap) (hcap2 : cap ≤ 9223372036854775807) :
  Calls Tryz.prog 123 #[.slice (some ⟨g, 0, none⟩) n cap, .string ByteArray.empty] w fun e w' => e = .returned (.string ⟨(flat ss).toArray⟩) ∧ Below w.heap.size w w' := by
 by_cases h2 : 2 ≤ n
 ·exact join_many g cap ss n w hn h2 hmax ht hg hc hcap hcap2
 ·have hn1 : n = 1 := by omega
  subst hn1
  obtain ⟨s, rfl⟩ := List.length_eq_one_iff.1 hn
  refine (join_one g cap s w (hc 0 (by simp))).mono ?_
  rintro e w' ⟨rfl, rfl⟩
  refine ⟨?_, Below.refl _ _⟩
  simp [flat]
def texts (m : List (Option ByteArray)) : List ByteArray := m.map fun o => o.getD ByteArray.empty
theorem texts_total (m : List (Option ByteArray)) : total (texts m) = size m := by unfold total texts size; rw [List.map_map]; rfl
theorem text_all (b gp gh : Nat) (m : List (Option ByteArray)) (w : World) (h : BoxAt w b gp gh m) (hl : left m = 0) (hm : m.length ≤ 4096) (h1 : 1 ≤ m.length) (hs : size m ≤ 524288) :
  Calls Tryz.prog 107 #[.pointer (some ⟨b, 0, none⟩)] w fun e w' => e = .returned (.tuple #[.string ⟨(flat (texts m)).toArray⟩, .int .i64 0]) ∧ Below w.heap.size w w' := by
 have c0 : w.cell? ⟨b, 0, none⟩ = some (.slice (some ⟨gp, 0, none⟩) m.length m.length) := h.1.cell 0
 have c2 : w.cell? ⟨b, 2, none⟩ = some (.int .i64 (left m : Nat)) := h.1.cell 2
 rw [hl] at c2
 have H := hid h
 clear h hl
 go_enter Tryz.func107, Tryz.ntmps107
 go_wp2_with fail
 refine (join_any gp m.length (texts m) m.length _ (by simp [texts]) h1 (by omega) (by rw [texts_total]; omega) H.out.2.1.lt ?_ (Nat.le_refl _) (by omega)).mono ?_
 ·intro k hk
  rw [H.out.2.1.cell k, List.getElem?_map]
  have hk2 : k < m.length := by simpa [texts] using hk
  rw [List.getElem?_eq_getElem hk2]
  simp [texts, pStr]
 rintro e w1 ⟨rfl, hb⟩
 go_wp2
 go_ret2
 exact ⟨rfl, hb⟩
end Go.Proofs.YtaemlplcjjbamaaGreatDoor.Bx
