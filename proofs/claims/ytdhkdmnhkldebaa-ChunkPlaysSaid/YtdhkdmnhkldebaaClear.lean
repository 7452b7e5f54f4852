/- The walk of Clear (chunk). Condition: none beyond the object's own. -/
import Derived.Test.YtdhkdmnhkldebaaPut
import Derived.Lib.SliceRun
namespace Go.Proofs.Ytdhkdmnhkldebaa
open Go.RowKit
set_option linter.unusedVariables false

theorem wpList_clear_run {P : Program} (w : World) {ops : Array Oper} {rest : List Oper} {o : Oper} {a : Act} {Q : Exit → Act → World → Prop} (hgd : o.guard = none) (s : Operand) (t : TypeId)
    (ho : o.op = .call { callee := .builtin .clear, args := #[s], argTypes := #[t] }) (v : Value) (hs : a.eval s = v) {v' : Value} {w' : World}
    (hr : (Builtin.clear_ #[t] o.type #[v]).run P w = .ok v' w') (h : wpList P ops Q rest (a.put o.dst v') w') : wpList P ops Q (o :: rest) a w :=
  wpList_plain hgd fun K hK => by
    have hk := hK _ _ h
    unfold Oper.wp execOp
    simp only [ho, resolve, invoke, builtin, Sem.run_bind, Sem.run_pure, Result.andThen_ok, List.map_toArray, List.map_cons, List.map_nil, hs, hr]
    exact hk
theorem blk_setCells {b : Nat} {T : TypeId} : ∀ (vs : List Value) {w : World} {cs : List Value} (h : Blk w b cs T) (o : Nat) (hl : o + vs.length ≤ cs.length), Blk (w.setCells b o vs) b (cs.take o ++ vs ++ cs.drop (o + vs.length)) T
  | [], w, cs, h, o, hl => by
    have e : cs.take o ++ [] ++ cs.drop (o + ([] : List Value).length) = cs := by simp
    rw [e]; exact h
  | v :: r, w, cs, h, o, hl => by
    rw [List.length_cons] at hl
    have h1 := blk_setCells r (h.set o v) (o + 1) (by rw [List.length_set]; omega)
    have e : (cs.set o v).take (o + 1) ++ r ++ (cs.set o v).drop (o + 1 + r.length) = cs.take o ++ (v :: r) ++ cs.drop (o + (v :: r).length) := by
      obtain ⟨A, x, R, rfl, rfl⟩ : ∃ A x R, cs = A ++ x :: R ∧ o = A.length := by
        refine ⟨cs.take o, cs[o]'(by omega), cs.drop (o + 1), ?_, by rw [List.length_take]; omega⟩
        rw [List.getElem_cons_drop, List.take_append_drop]
      have e1 : (A ++ x :: R).set A.length v = A ++ v :: R := by simp
      have e2 : A.length + 1 + r.length - A.length = r.length + 1 := by omega
      have e3 : A.length + (r.length + 1) - A.length = r.length + 1 := by omega
      have e4 : ∀ k, A.drop (A.length + k) = [] := fun k => List.drop_eq_nil_of_le (by omega)
      rw [e1, List.length_cons]
      simp only [List.take_append, List.drop_append, e2, e3, Nat.sub_self, Nat.add_sub_cancel_left, List.take_zero, List.append_nil, List.take_length]
      rw [Nat.add_assoc, e4, e4, List.take_of_length_le (show A.length ≤ A.length + 1 by omega)]
      simp
    rw [e] at h1
    exact h1
theorem blk_setCells_other {T : TypeId} {b b' : Nat} {cs : List Value} (hne : b ≠ b') : ∀ (vs : List Value) (o : Nat) (w : World), Blk w b cs T → Blk (w.setCells b' o vs) b cs T
  | [], _, _, h => h
  | v :: r, o, w, h => blk_setCells_other hne r (o + 1) _ (h.set_other (a := ⟨b', o, none⟩) hne v)
theorem touch_setCells {S : Nat → Prop} {a : World} {b : Nat} (hb : S b) : ∀ (vs : List Value) (o : Nat) (w : World), Touch S a w → Touch S a (w.setCells b o vs)
  | [], _, _, h => h
  | v :: r, o, w, h => touch_setCells hb r (o + 1) _ (h.set (p := ⟨b, o, none⟩) (Or.inl hb) v)
/-- a whole block cleared -/
theorem run_clear_blk (w : World) (t e : TypeId) (z : Value) (g n : Nat) (cs : List Value) (ht : Try.prog.underlying t = some (.slice e)) (hv : ∀ w, (zeroValue e).run Try.prog w = .ok z w) (hz : z.cells = #[z]) (h1 : z.oneCell' = true) (hn : 0 < n) (hb : Blk w g cs e) (hl : cs.length = n) :
    (∀ ty, (Builtin.clear_ #[t] ty #[.slice (some ⟨g, 0, none⟩) n n]).run Try.prog w = .ok (.tuple #[]) (w.setCells g 0 (List.replicate n z))) ∧ Blk (w.setCells g 0 (List.replicate n z)) g (List.replicate n z) e := by
  refine ⟨fun ty => Lib.run_clear_slice (P := Try.prog) w t e ty z ht hv hz h1 g 0 n n hn (fun j hj => by rw [Nat.zero_add, hb.cell j, List.getElem?_eq_getElem (by omega)]; rfl) (fun j _ => by rw [Nat.zero_add]; exact hb.free j), ?_⟩
  have := blk_setCells (List.replicate n z) hb 0 (by simp; omega)
  rw [List.take_zero, List.nil_append, List.drop_eq_nil_of_le (by simp; omega), List.append_nil] at this
  exact this
def noParts (m : List (Option ByteArray)) : List (Option ByteArray) := List.replicate m.length none

set_option maxRecDepth 100000 in
set_option maxHeartbeats 1000000 in
theorem clear_any (b gp gh : Nat) (m : List (Option ByteArray)) (w : World) (h : BoxAt w b gp gh m) (h0 : 0 < m.length) :
    Calls Try.prog 19 #[.pointer (some ⟨b, 0, none⟩)] w fun e w' => e = .returned (.tuple #[]) ∧ BoxAt w' b gp gh (noParts m) ∧ Touch (InBox b gp gh) w w' := by
  obtain ⟨B1, B2, B3⟩ := h
  have n1 : b ≠ gp := B1.ne B2 (by decide)
  have n2 : b ≠ gh := B1.ne B3 (by decide)
  have n3 : gp ≠ gh := B2.ne B3 (by decide)
  obtain ⟨hr1, hb1⟩ := run_clear_blk w 55 9 (.string ByteArray.empty) gp m.length _ Try.underlying55 (fun w => by kernel_rfl) rfl rfl h0 B2 (by simp)
  have C1 := blk_setCells_other n1 (List.replicate m.length (.string ByteArray.empty)) 0 w B1
  have C3 := blk_setCells_other (Ne.symm n3) (List.replicate m.length (.string ByteArray.empty)) 0 w B3
  have T1 : Touch (InBox b gp gh) w (w.setCells gp 0 (List.replicate m.length (.string ByteArray.empty))) := touch_setCells (Or.inr (Or.inl rfl)) _ 0 w (Touch.refl _ w)
  have c0 : w.cell? ⟨b, 0, none⟩ = some (.slice (some ⟨gp, 0, none⟩) m.length m.length) := B1.cell 0
  generalize hw1 : w.setCells gp 0 (List.replicate m.length (.string ByteArray.empty)) = w1 at hr1 hb1 C1 C3 T1
  obtain ⟨hr2, hb2⟩ := run_clear_blk w1 56 4 (.bool false) gh m.length _ Try.underlying56 (fun w => by kernel_rfl) rfl rfl h0 C3 (by simp)
  have D1 := blk_setCells_other n2 (List.replicate m.length (.bool false)) 0 w1 C1
  have D2 := blk_setCells_other n3 (List.replicate m.length (.bool false)) 0 w1 hb1
  have T2 : Touch (InBox b gp gh) w (w1.setCells gh 0 (List.replicate m.length (.bool false))) := touch_setCells (Or.inr (Or.inr rfl)) _ 0 w1 T1
  have c1 : w1.cell? ⟨b, 1, none⟩ = some (.slice (some ⟨gh, 0, none⟩) m.length m.length) := C1.cell 1
  generalize hw2 : w1.setCells gh 0 (List.replicate m.length (.bool false)) = w2 at hr2 hb2 D1 D2 T2
  have d0 : w2.cell? ⟨b, 0, none⟩ = some (.slice (some ⟨gp, 0, none⟩) m.length m.length) := D1.cell 0
  have d2 : w2.cell? ⟨b, 2, none⟩ = some (.int .i64 (left m : Nat)) := D1.cell 2
  have d3 : w2.cell? ⟨b, 3, none⟩ = some (.int .i64 (size m : Nat)) := D1.cell 3
  have g2 := D1.free 2
  have g3 := D1.free 3
  have HR1 := Lib.hid hr1
  have HR2 := Lib.hid hr2
  have E1 := Lib.hid ((D1.set 2 (.int .i64 (m.length : Nat))).set 3 (.int .i64 0))
  have E2 := Lib.hid ((D2.set_other (a := ⟨b, 2, none⟩) (Ne.symm n1) (.int .i64 (m.length : Nat))).set_other (a := ⟨b, 3, none⟩) (Ne.symm n1) (.int .i64 0))
  have E3 := Lib.hid ((hb2.set_other (a := ⟨b, 2, none⟩) (Ne.symm n2) (.int .i64 (m.length : Nat))).set_other (a := ⟨b, 3, none⟩) (Ne.symm n2) (.int .i64 0))
  have T3 := Lib.hid ((T2.set (p := ⟨b, 2, none⟩) (Or.inl (Or.inl rfl)) (.int .i64 (m.length : Nat))).set (p := ⟨b, 3, none⟩) (Or.inl (Or.inl rfl)) (.int .i64 0))
  clear hw1 hw2 hr1 hr2 hb1 hb2 C1 C3 D1 D2 T1 T2 B1 B2 B3
  go_enter Try.func19, Try.ntmps19
  go_wp2_with (first | (refine wpList_clear_run _ rfl _ 55 rfl _ rfl (HR1.out _) ?_) | (refine wpList_clear_run _ rfl _ 56 rfl _ rfl (HR2.out _) ?_))
  go_end0
  refine ⟨rfl, ⟨?_, ?_, ?_⟩, T3.out⟩
  · unfold noParts
    rw [left_new, size_new, List.length_replicate]
    exact E1.out
  · unfold noParts
    rw [List.map_replicate]
    exact E2.out
  · unfold noParts
    rw [List.map_replicate]
    exact E3.out
end Go.Proofs.Ytdhkdmnhkldebaa
