/- The document's device: Copy. No condition but the sizes. -/
import Derived.Test.YtlmodbaeoheiiaaRefRemove
import Derived.Test.YtlmodbaeoheiiaaHeld
import Derived.Laws.AppendOwnNone
namespace Go.Proofs.Ytlmodbaeoheiiaa
open Go Go.RowKit
set_option linter.unusedVariables false

/-- 'append(s, x...)' of an owned row, as a step of a region that draws its order -/
theorem step_append_row {P : Program} (w : World) {ops : Array Oper} {o : Oper} {a : Act} {K : Act → World → Prop} {Q : Exit → Act → World → Prop} {E : Prop} (hgd : o.guard = none) (s x : Operand) (t : TypeId)
    (ho : o.op = .call { callee := .builtin .append, args := #[s, x], argTypes := #[t, t] })
    (base : Nat) (e : TypeId) (i : TypeInfo) (z : Value) (size bytes : Nat) (ht : P.underlying t = some (.slice e)) (hi : P.info? e = some i) (hz : i.zero = some z)
    (hsize : i.size = size) (hby : i.bytes = bytes) (hzs : z.cells.size = size) (hsz : 0 < size)
    (v : Value) (hs : a.eval s = v) (hown : w.ownsRow base e size v 0 [])
    (b2 : Nat) (xv : Value) (m : Nat) (news : List Value) (hx : a.eval x = xv) (hsrc : w.ownsRow b2 e size xv m news) (h1 : ∀ u ∈ news, u.oneCell' = true)
    (h63 : m ≤ maxLen) (hbytes : m * bytes ≤ 140737488355328) (hbase : base ≤ w.heap.size)
    (h : ∀ ad' cap' w', w'.ownsRow base e size (.slice ad' m cap') m news → w.grownBy w' v.ownBlock → K (a.put o.dst (.slice ad' m cap')) w') :
    if Region.wanted o (yielded ops a.tmps) = true then Oper.wp P o a w K Q else E := by
  rcases hsrc.2 with ⟨rfl, hm0⟩ | ⟨g, cap, cur, rfl, _⟩
  · have hw : Region.wanted o (yielded ops a.tmps) = true := by simp [Region.wanted, hgd]
    rw [if_pos hw]
    subst hm0
    have hn : news = [] := List.eq_nil_of_length_eq_zero (by rw [hsrc.1, Nat.zero_mul])
    subst hn
    have hr := run_append_owned_none (P := P) (w := w) base t o.type e i size ht hi v 0 [] hown
    obtain ⟨ad', cap', rfl⟩ := slice_of_row hown
    unfold Oper.wp execOp
    simp only [ho, resolve, invoke, builtin, Sem.run_bind, Sem.run_pure, Result.andThen_ok, List.map_toArray, List.map_cons, List.map_nil, hs, hx, hr]
    exact h ad' cap' w hown (World.grownBy.refl _ _)
  · refine step_append_own_at w hgd s x t ho base e i z size bytes ht hi hz hsize hby hzs hsz v 0 [] hs hown ⟨g, 0, none⟩ m cap news hx hsrc.1 (fun j u hj => ?_) h1 (by omega) (by rw [Nat.zero_add]; exact hbytes) hbase _ rfl (fun ad' cap' w' h2 h3 _ => ?_)
    · rw [addr_add]
      have hlt : j < m * size := by
        rcases Nat.lt_or_ge j (m * size) with h | h
        · exact h
        · rw [List.getElem?_eq_none (by rw [hsrc.1]; exact h)] at hj; cases hj
      rw [hsrc.cellAt j hlt]
      exact hj
    · rw [Nat.zero_add] at h2 ⊢
      exact h ad' cap' w' h2 h3
theorem step_build0 {P : Program} (w : World) {ops : Array Oper} {o : Oper} {a : Act} {K : Act → World → Prop} {Q : Exit → Act → World → Prop} {E : Prop} (hgd : o.guard = none) (t e : TypeId) (ho : o.op = .buildSlice t 0 #[])
    (ht : P.underlying t = some (.slice e)) (i : TypeInfo) (hi : P.info? e = some i) (size : Nat) (h : ∀ v w', w'.ownsRow w.heap.size e size v 0 [] → Below w.heap.size w w' → K (a.put o.dst v) w') :
    if Region.wanted o (yielded ops a.tmps) = true then Oper.wp P o a w K Q else E := by
  have hw : Region.wanted o (yielded ops a.tmps) = true := by simp [Region.wanted, hgd]
  rw [if_pos hw]
  have hr : (Instr.buildSlice t 0 #[]).run P w = .ok (.slice (some ⟨w.heap.size, 0, none⟩) 0 0) (w.alloc (.cells #[] e)) := by
    have h0 : Array.range 0 = #[] := Array.eq_empty_of_size_eq_zero Array.size_range
    simp [Instr.buildSlice, run_underlying ht, sizeOf, typeInfo, hi, newRow, Instr.fill, h0]
  unfold Oper.wp execOp
  simp only [ho, Sem.run_bind, List.map_toArray, List.map_nil, hr, Result.andThen_ok]
  exact h _ _ ⟨by simp, Or.inr ⟨w.heap.size, 0, #[], rfl, Nat.le_refl _, heap_alloc_new w _, Nat.le_refl _, Nat.zero_le _, by simp, by simp⟩⟩ ((Below.refl _ w).alloc (Nat.le_refl _) _)
theorem row_apart {w : World} {B1 B2 : Nat} {e1 e2 : TypeId} {s1 s2 n1 n2 : Nat} {v1 v2 : Value} {xs ys : List Value} (h1 : w.ownsRow B1 e1 s1 v1 n1 xs) (h2 : w.ownsRow B2 e2 s2 v2 n2 ys) (hne : e1 ≠ e2) : v2.ownBlock = none ∨ v2.ownBlock ≠ v1.ownBlock := by
  rcases h2.2 with ⟨rfl, _⟩ | ⟨g2, c2, cur2, rfl, _, hg2, _⟩
  · exact Or.inl rfl
  · right
    rcases h1.2 with ⟨rfl, _⟩ | ⟨g1, c1, cur1, rfl, _, hg1, _⟩
    · intro h; cases h
    · intro h
      injection h with h
      have h3 : g2 = g1 := h
      subst h3
      rw [hg1] at hg2
      injection hg2 with hg2
      injection hg2 with _ h4 _
      exact hne h4
/-- what is built so far: the row of files, the row of pieces -/
structure Built (w w' : World) (r1 r2 : Option (Value × Nat × List Value)) : Prop where
  bel : Below w.heap.size w w'
  r1 : ∀ v n xs, r1 = some (v, n, xs) → w'.ownsRow w.heap.size 94 4 v n xs
  r2 : ∀ v n xs, r2 = some (v, n, xs) → w'.ownsRow w.heap.size 96 3 v n xs
theorem Built.b1 {w wc w' : World} {v : Value} {r1 r2 : Option (Value × Nat × List Value)} (h : Built w wc r1 r2) (ho : w'.ownsRow wc.heap.size 94 4 v 0 []) (hb : Below wc.heap.size wc w') : Built w w' (some (v, 0, [])) r2 :=
  ⟨h.bel.trans (hb.mono h.bel.size), fun u n xs e => by cases e; exact row_base ho h.bel.size, fun u n xs e => ownsRow_below (h.r2 u n xs e) hb⟩
theorem Built.b2 {w wc w' : World} {v : Value} {r1 r2 : Option (Value × Nat × List Value)} (h : Built w wc r1 r2) (ho : w'.ownsRow wc.heap.size 96 3 v 0 []) (hb : Below wc.heap.size wc w') : Built w w' r1 (some (v, 0, [])) :=
  ⟨h.bel.trans (hb.mono h.bel.size), fun u n xs e => ownsRow_below (h.r1 u n xs e) hb, fun u n xs e => by cases e; exact row_base ho h.bel.size⟩
theorem Built.a1 {w wc w' : World} {v u : Value} {n m : Nat} {xs ys : List Value} {r2 : Option (Value × Nat × List Value)} (h : Built w wc (some (v, n, xs)) r2) (ho : w'.ownsRow w.heap.size 94 4 u m ys) (hg : wc.grownBy w' v.ownBlock) : Built w w' (some (u, m, ys)) r2 :=
  ⟨h.bel.grown hg h.bel.size (fun k hk => ((h.r1 _ _ _ rfl).lt k hk).1), fun u' n' xs' e => by cases e; exact ho, fun u' n' xs' e => (h.r2 u' n' xs' e).kept hg (row_apart (h.r1 _ _ _ rfl) (h.r2 u' n' xs' e) (by decide))⟩
theorem Built.a2 {w wc w' : World} {v u : Value} {n m : Nat} {xs ys : List Value} {r1 : Option (Value × Nat × List Value)} (h : Built w wc r1 (some (v, n, xs))) (ho : w'.ownsRow w.heap.size 96 3 u m ys) (hg : wc.grownBy w' v.ownBlock) : Built w w' r1 (some (u, m, ys)) :=
  ⟨h.bel.grown hg h.bel.size (fun k hk => ((h.r2 _ _ _ rfl).lt k hk).1), fun u' n' xs' e => (h.r1 u' n' xs' e).kept hg (row_apart (h.r2 _ _ _ rfl) (h.r1 u' n' xs' e) (by decide)), fun u' n' xs' e => by cases e; exact ho⟩
theorem rpsVals_one2 (l : List RP) : ∀ v ∈ rpsVals l, v.oneCell' = true := by
  intro v hv
  obtain ⟨p, _, hp⟩ := List.mem_flatMap.1 hv
  simp only [rpVals, List.mem_cons, List.not_mem_nil, or_false] at hp
  rcases hp with rfl | rfl | rfl <;> rfl
def OwnRef (B : Nat) (c : Nat) (R : RSt) (w : World) : Prop := RefD w c R ∧ ∀ k, rfoot c R k → B ≤ k
theorem built_ref {w w5 : World} {q : Nat} {R : RSt} {u1 u2 : Value} (h : Built w w5 (some (u1, R.files.length, rfsVals R.files)) (some (u2, R.wait.length, rpsVals R.wait))) :
    ∃ R', OwnRef w.heap.size w5.heap.size R' (w5.alloc (.cells #[u1, u2, .int .i64 R.most, .int .i64 R.fuse, .bool R.off, .int .i64 R.count, .int .i64 R.made] 52)) ∧ R'.pl = R.pl ∧ Below w.heap.size w (w5.alloc (.cells #[u1, u2, .int .i64 R.most, .int .i64 R.fuse, .bool R.off, .int .i64 R.count, .int .i64 R.made] 52)) := by
  have h1 := h.r1 _ _ _ rfl
  have h2 := h.r2 _ _ _ rfl
  have hA := (Below.refl w5.heap.size w5).alloc (Nat.le_refl _) (.cells #[u1, u2, .int .i64 R.most, .int .i64 R.fuse, .bool R.off, .int .i64 R.count, .int .i64 R.made] 52)
  refine ⟨{ R with fv := u1, wv := u2 }, ⟨⟨Blk.new w5 _ _, row_base (ownsRow_below h1 hA) (Nat.zero_le _), row_base (ownsRow_below h2 hA) (Nat.zero_le _)⟩, fun k hk => ?_⟩, rfl, h.bel.alloc h.bel.size _⟩
  rcases hk with rfl | hk | hk
  · exact h.bel.size
  · exact (h1.lt k hk).1
  · exact (h2.lt k hk).1
set_option maxRecDepth 100000 in
set_option maxHeartbeats 3200000 in
theorem refCopy_any (q : Nat) (R : RSt) (w : World) (h : RefD w q R) (hl : R.files.length ≤ 1000000) (hwl : R.wait.length ≤ 1000000000) :
    Calls Try.prog 28 #[.pointer (some ⟨q, 0, none⟩)] w fun e w' => ∃ c R', e = .returned (.pointer (some ⟨c, 0, none⟩)) ∧ OwnRef w.heap.size c R' w' ∧ R'.pl = R.pl ∧ Below w.heap.size w w' := by
  obtain ⟨fa, fc, hfv⟩ := row_shape h.frow
  obtain ⟨wa, wc, hwv⟩ := row_shape h.wrow
  have HS := Lib.hid (show ∀ w', Below w.heap.size w w' → w'.cell? ⟨q, 0, none⟩ = some (.slice fa R.files.length fc) ∧ w'.cell? ⟨q, 1, none⟩ = some (.slice wa R.wait.length wc) ∧ w'.cell? ⟨q, 2, none⟩ = some (.int .i64 R.most) ∧ w'.cell? ⟨q, 3, none⟩ = some (.int .i64 R.fuse) ∧ w'.cell? ⟨q, 4, none⟩ = some (.bool R.off) ∧ w'.cell? ⟨q, 5, none⟩ = some (.int .i64 R.count) ∧ w'.cell? ⟨q, 6, none⟩ = some (.int .i64 R.made) from fun w' hb => by
    have hR := (h.below hb).blk
    exact ⟨by rw [← hfv]; exact hR.cell 0, by rw [← hwv]; exact hR.cell 1, hR.cell 2, hR.cell 3, hR.cell 4, hR.cell 5, hR.cell 6⟩)
  have HF := Lib.hid (show ∀ w', Below w.heap.size w w' → w'.ownsRow 0 94 4 (.slice fa R.files.length fc) R.files.length (rfsVals R.files) from fun w' hb => by rw [← hfv]; exact (h.below hb).frow)
  have HW := Lib.hid (show ∀ w', Below w.heap.size w w' → w'.ownsRow 0 96 3 (.slice wa R.wait.length wc) R.wait.length (rpsVals R.wait) from fun w' hb => by rw [← hwv]; exact (h.below hb).wrow)
  have J00 := Lib.hid (show Built w w.drew none none from ⟨(Below.refl _ w).drew, fun _ _ _ e => (by cases e), fun _ _ _ e => (by cases e)⟩)
  have HFIN := Lib.hid (fun w5 u1 u2 => built_ref (w := w) (w5 := w5) (q := q) (R := R) (u1 := u1) (u2 := u2))
  obtain ⟨i0, hi0, hz0, hz1, hz2⟩ := info_parts info_rfile
  obtain ⟨j0, hj0, hy0, hy1, hy2⟩ := info_parts info_rpiece
  have Hi0 := Lib.hid hi0
  have Hj0 := Lib.hid hj0
  have O1 := Lib.hid (rfsVals_one R.files)
  have O2 := Lib.hid (rpsVals_one2 R.wait)
  have M1 := Lib.hid (show R.files.length ≤ maxLen by unfold maxLen; omega)
  have M2 := Lib.hid (show R.files.length * 56 ≤ 140737488355328 by omega)
  have M3 := Lib.hid (show R.wait.length ≤ maxLen by unfold maxLen; omega)
  have M4 := Lib.hid (show R.wait.length * 32 ≤ 140737488355328 by omega)
  clear h hfv hwv hi0 hj0 hl hwl
  go_enter Try.func28, Try.ntmps28
  obtain ⟨c0, c1, c2, c3, c4, c5, c6⟩ := HS.out w (Below.refl _ _)
  go_upto_region 1 with (fail)
  refine wp_region_noPanic ?_
  refine wp_region_held_drew (S := (fun w' => w'.cell? ⟨q, 0, none⟩ = some (.slice fa R.files.length fc) ∧ w'.cell? ⟨q, 1, none⟩ = some (.slice wa R.wait.length wc) ∧ w'.cell? ⟨q, 2, none⟩ = some (.int .i64 R.most) ∧ w'.cell? ⟨q, 3, none⟩ = some (.int .i64 R.fuse) ∧ w'.cell? ⟨q, 4, none⟩ = some (.bool R.off) ∧ w'.cell? ⟨q, 5, none⟩ = some (.int .i64 R.count) ∧ w'.cell? ⟨q, 6, none⟩ = some (.int .i64 R.made))) (by kernel_rfl) ?_ (fun hHeld => ?_)
  · exact HS.out _ (Below.refl _ _).drew
  refine held_take (i := 1) (v := ?_) rfl (by kernel_rfl) (by kernel_rfl) (by kernel_rfl) (fun _ _ _ h => h) (by rfl) (fun w hSw => ?_) (by assumption) ?_
  rotate_left
  · ((try dsimp only at hSw); go_simp; (try with_reducible rfl))
  (try simp only [Act.put, List.setIfInBounds_toArray, List.set_cons_zero, List.set_cons_succ])
  refine held_take (i := 2) (v := ?_) rfl (by kernel_rfl) (by kernel_rfl) (by kernel_rfl) (fun _ _ _ h => h) (by rfl) (fun w hSw => ?_) (by assumption) ?_
  rotate_left
  · ((try dsimp only at hSw); go_simp; (try with_reducible rfl))
  (try simp only [Act.put, List.setIfInBounds_toArray, List.set_cons_zero, List.set_cons_succ])
  refine held_take (i := 3) (v := ?_) rfl (by kernel_rfl) (by kernel_rfl) (by kernel_rfl) (fun _ _ _ h => h) (by rfl) (fun w hSw => ?_) (by assumption) ?_
  rotate_left
  · ((try dsimp only at hSw); go_simp; (try with_reducible rfl))
  (try simp only [Act.put, List.setIfInBounds_toArray, List.set_cons_zero, List.set_cons_succ])
  refine held_take (i := 4) (v := ?_) rfl (by kernel_rfl) (by kernel_rfl) (by kernel_rfl) (fun _ _ _ h => h) (by rfl) (fun w hSw => ?_) (by assumption) ?_
  rotate_left
  · ((try dsimp only at hSw); go_simp; (try with_reducible rfl))
  (try simp only [Act.put, List.setIfInBounds_toArray, List.set_cons_zero, List.set_cons_succ])
  refine held_take (i := 7) (v := ?_) rfl (by kernel_rfl) (by kernel_rfl) (by kernel_rfl) (fun _ _ _ h => h) (by rfl) (fun w hSw => ?_) (by assumption) ?_
  rotate_left
  · ((try dsimp only at hSw); go_simp; (try with_reducible rfl))
  (try simp only [Act.put, List.setIfInBounds_toArray, List.set_cons_zero, List.set_cons_succ])
  refine held_take (i := 8) (v := ?_) rfl (by kernel_rfl) (by kernel_rfl) (by kernel_rfl) (fun _ _ _ h => h) (by rfl) (fun w hSw => ?_) (by assumption) ?_
  rotate_left
  · ((try dsimp only at hSw); go_simp; (try with_reducible rfl))
  (try simp only [Act.put, List.setIfInBounds_toArray, List.set_cons_zero, List.set_cons_succ])
  refine held_take (i := 9) (v := ?_) rfl (by kernel_rfl) (by kernel_rfl) (by kernel_rfl) (fun _ _ _ h => h) (by rfl) (fun w hSw => ?_) (by assumption) ?_
  rotate_left
  · ((try dsimp only at hSw); go_simp; (try with_reducible rfl))
  (try simp only [Act.put, List.setIfInBounds_toArray, List.set_cons_zero, List.set_cons_succ])
  refine held_take (i := 10) (v := ?_) rfl (by kernel_rfl) (by kernel_rfl) (by kernel_rfl) (fun _ _ _ h => h) (by rfl) (fun w hSw => ?_) (by assumption) ?_
  rotate_left
  · ((try dsimp only at hSw); go_simp; (try with_reducible rfl))
  (try simp only [Act.put, List.setIfInBounds_toArray, List.set_cons_zero, List.set_cons_succ])
  refine held_take (i := 12) (v := ?_) rfl (by kernel_rfl) (by kernel_rfl) (by kernel_rfl) (fun _ _ _ h => h) (by rfl) (fun w hSw => ?_) (by assumption) ?_
  rotate_left
  · ((try dsimp only at hSw); go_simp; (try with_reducible rfl))
  (try simp only [Act.put, List.setIfInBounds_toArray, List.set_cons_zero, List.set_cons_succ])
  refine held_take (i := 13) (v := ?_) rfl (by kernel_rfl) (by kernel_rfl) (by kernel_rfl) (fun _ _ _ h => h) (by rfl) (fun w hSw => ?_) (by assumption) ?_
  rotate_left
  · ((try dsimp only at hSw); go_simp; (try with_reducible rfl))
  (try simp only [Act.put, List.setIfInBounds_toArray, List.set_cons_zero, List.set_cons_succ])
  refine held_take (i := 14) (v := ?_) rfl (by kernel_rfl) (by kernel_rfl) (by kernel_rfl) (fun _ _ _ h => h) (by rfl) (fun w hSw => ?_) (by assumption) ?_
  rotate_left
  · ((try dsimp only at hSw); go_simp; (try with_reducible rfl))
  (try simp only [Act.put, List.setIfInBounds_toArray, List.set_cons_zero, List.set_cons_succ])
  refine held_take (i := 15) (v := ?_) rfl (by kernel_rfl) (by kernel_rfl) (by kernel_rfl) (fun _ _ _ h => h) (by rfl) (fun w hSw => ?_) (by assumption) ?_
  rotate_left
  · ((try dsimp only at hSw); go_simp; (try with_reducible rfl))
  (try simp only [Act.put, List.setIfInBounds_toArray, List.set_cons_zero, List.set_cons_succ])
  refine held_take (i := 16) (v := ?_) rfl (by kernel_rfl) (by kernel_rfl) (by kernel_rfl) (fun _ _ _ h => h) (by rfl) (fun w hSw => ?_) (by assumption) ?_
  rotate_left
  · ((try dsimp only at hSw); go_simp; (try with_reducible rfl))
  (try simp only [Act.put, List.setIfInBounds_toArray, List.set_cons_zero, List.set_cons_succ])
  refine held_take (i := 17) (v := ?_) rfl (by kernel_rfl) (by kernel_rfl) (by kernel_rfl) (fun _ _ _ h => h) (by rfl) (fun w hSw => ?_) (by assumption) ?_
  rotate_left
  · ((try dsimp only at hSw); go_simp; (try with_reducible rfl))
  (try simp only [Act.put, List.setIfInBounds_toArray, List.set_cons_zero, List.set_cons_succ])
  refine held_take (i := 18) (v := ?_) rfl (by kernel_rfl) (by kernel_rfl) (by kernel_rfl) (fun _ _ _ h => h) (by rfl) (fun w hSw => ?_) (by assumption) ?_
  rotate_left
  · ((try dsimp only at hSw); go_simp; (try with_reducible rfl))
  (try simp only [Act.put, List.setIfInBounds_toArray, List.set_cons_zero, List.set_cons_succ])
  refine held_take (i := 19) (v := ?_) rfl (by kernel_rfl) (by kernel_rfl) (by kernel_rfl) (fun _ _ _ h => h) (by rfl) (fun w hSw => ?_) (by assumption) ?_
  rotate_left
  · ((try dsimp only at hSw); go_simp; (try with_reducible rfl))
  (try simp only [Act.put, List.setIfInBounds_toArray, List.set_cons_zero, List.set_cons_succ])
  refine held_take (i := 20) (v := ?_) rfl (by kernel_rfl) (by kernel_rfl) (by kernel_rfl) (fun _ _ _ h => h) (by rfl) (fun w hSw => ?_) (by assumption) ?_
  rotate_left
  · ((try dsimp only at hSw); go_simp; (try with_reducible rfl))
  (try simp only [Act.put, List.setIfInBounds_toArray, List.set_cons_zero, List.set_cons_succ])
  refine held_take (i := 21) (v := ?_) rfl (by kernel_rfl) (by kernel_rfl) (by kernel_rfl) (fun _ _ _ h => h) (by rfl) (fun w hSw => ?_) (by assumption) ?_
  rotate_left
  · ((try dsimp only at hSw); go_simp; (try with_reducible rfl))
  (try simp only [Act.put, List.setIfInBounds_toArray, List.set_cons_zero, List.set_cons_succ])
  refine held_take (i := 22) (v := ?_) rfl (by kernel_rfl) (by kernel_rfl) (by kernel_rfl) (fun _ _ _ h => h) (by rfl) (fun w hSw => ?_) (by assumption) ?_
  rotate_left
  · ((try dsimp only at hSw); go_simp; (try with_reducible rfl))
  (try simp only [Act.put, List.setIfInBounds_toArray, List.set_cons_zero, List.set_cons_succ])
  refine held_take (i := 23) (v := ?_) rfl (by kernel_rfl) (by kernel_rfl) (by kernel_rfl) (fun _ _ _ h => h) (by rfl) (fun w hSw => ?_) (by assumption) ?_
  rotate_left
  · ((try dsimp only at hSw); go_simp; (try with_reducible rfl))
  (try simp only [Act.put, List.setIfInBounds_toArray, List.set_cons_zero, List.set_cons_succ])
  refine held_take (i := 24) (v := ?_) rfl (by kernel_rfl) (by kernel_rfl) (by kernel_rfl) (fun _ _ _ h => h) (by rfl) (fun w hSw => ?_) (by assumption) ?_
  rotate_left
  · ((try dsimp only at hSw); go_simp; (try with_reducible rfl))
  (try simp only [Act.put, List.setIfInBounds_toArray, List.set_cons_zero, List.set_cons_succ])
  refine held_take (i := 25) (v := ?_) rfl (by kernel_rfl) (by kernel_rfl) (by kernel_rfl) (fun _ _ _ h => h) (by rfl) (fun w hSw => ?_) (by assumption) ?_
  rotate_left
  · ((try dsimp only at hSw); go_simp; (try with_reducible rfl))
  (try simp only [Act.put, List.setIfInBounds_toArray, List.set_cons_zero, List.set_cons_succ])
  refine held_take (i := 26) (v := ?_) rfl (by kernel_rfl) (by kernel_rfl) (by kernel_rfl) (fun _ _ _ h => h) (by rfl) (fun w hSw => ?_) (by assumption) ?_
  rotate_left
  · ((try dsimp only at hSw); go_simp; (try with_reducible rfl))
  (try simp only [Act.put, List.setIfInBounds_toArray, List.set_cons_zero, List.set_cons_succ])
  refine held_take (i := 27) (v := ?_) rfl (by kernel_rfl) (by kernel_rfl) (by kernel_rfl) (fun _ _ _ h => h) (by rfl) (fun w hSw => ?_) (by assumption) ?_
  rotate_left
  · ((try dsimp only at hSw); go_simp; (try with_reducible rfl))
  (try simp only [Act.put, List.setIfInBounds_toArray, List.set_cons_zero, List.set_cons_succ])
  refine held_take (i := 28) (v := ?_) rfl (by kernel_rfl) (by kernel_rfl) (by kernel_rfl) (fun _ _ _ h => h) (by rfl) (fun w hSw => ?_) (by assumption) ?_
  rotate_left
  · ((try dsimp only at hSw); go_simp; (try with_reducible rfl))
  (try simp only [Act.put, List.setIfInBounds_toArray, List.set_cons_zero, List.set_cons_succ])
  refine held_take (i := 29) (v := ?_) rfl (by kernel_rfl) (by kernel_rfl) (by kernel_rfl) (fun _ _ _ h => h) (by rfl) (fun w hSw => ?_) (by assumption) ?_
  rotate_left
  · ((try dsimp only at hSw); go_simp; (try with_reducible rfl))
  (try simp only [Act.put, List.setIfInBounds_toArray, List.set_cons_zero, List.set_cons_succ])
  refine held_take (i := 30) (v := ?_) rfl (by kernel_rfl) (by kernel_rfl) (by kernel_rfl) (fun _ _ _ h => h) (by rfl) (fun w hSw => ?_) (by assumption) ?_
  rotate_left
  · ((try dsimp only at hSw); go_simp; (try with_reducible rfl))
  (try simp only [Act.put, List.setIfInBounds_toArray, List.set_cons_zero, List.set_cons_succ])
  refine held_take (i := 31) (v := ?_) rfl (by kernel_rfl) (by kernel_rfl) (by kernel_rfl) (fun _ _ _ h => h) (by rfl) (fun w hSw => ?_) (by assumption) ?_
  rotate_left
  · ((try dsimp only at hSw); go_simp; (try with_reducible rfl))
  (try simp only [Act.put, List.setIfInBounds_toArray, List.set_cons_zero, List.set_cons_succ])
  refine wpAnyH_ready (rs := [0, 6]) (by kernel_rfl) (by simp) ?_
  refine held_cons rfl (fun K hK => ?_) (held_cons rfl (fun K hK => ?_) (AllReadyH.nil))
  focus
    refine step_build0 _ (by rfl) 49 94 (by rfl) Try.underlying49 i0 Hi0.out 4 ?_; intro x1 z10 ho hb; have J10 := Lib.hid (J00.out.b1 ho hb); clear ho hb
    refine hK.out _ _ ?_ (fun hHeld => ?_)
    · exact HS.out _ J10.out.bel
    clear hK K
    (try simp only [Act.put, List.setIfInBounds_toArray, List.set_cons_zero, List.set_cons_succ])
    refine wpAnyH_ready (rs := [5, 6]) (by kernel_rfl) (by simp) ?_
    refine held_cons rfl (fun K hK => ?_) (held_cons rfl (fun K hK => ?_) (AllReadyH.nil))
    focus
      refine step_append_row _ (by rfl) (.tmp 3) (.tmp 7) 49 (by rfl) w.heap.size 94 i0 _ 4 56 Try.underlying49 Hi0.out hz0 hz1 hz2 rfl (by decide) x1 (by rfl) (J10.out.r1 _ _ _ rfl) 0 (.slice fa R.files.length fc) R.files.length (rfsVals R.files) (by rfl) (HF.out _ J10.out.bel) O1.out M1.out M2.out J10.out.bel.size ?_; intro y1 n1 z20 ho hg; have J20 := Lib.hid (J10.out.a1 ho hg); clear ho hg
      refine hK.out _ _ ?_ (fun hHeld => ?_)
      · exact HS.out _ J20.out.bel
      clear hK K
      (try simp only [Act.put, List.setIfInBounds_toArray, List.set_cons_zero, List.set_cons_succ])
      refine wpAnyH_ready (rs := [6]) (by kernel_rfl) (by simp) ?_
      refine held_cons rfl (fun K hK => ?_) (AllReadyH.nil)
      refine step_build0 _ (by rfl) 50 96 (by rfl) Try.underlying50 j0 Hj0.out 3 ?_; intro x2 z21 ho hb; have J21 := Lib.hid (J20.out.b2 ho hb); clear ho hb
      refine hK.out _ _ ?_ (fun hHeld => ?_)
      · exact HS.out _ J21.out.bel
      clear hK K
      (try simp only [Act.put, List.setIfInBounds_toArray, List.set_cons_zero, List.set_cons_succ])
      refine wpAnyH_ready (rs := [11]) (by kernel_rfl) (by simp) ?_
      refine held_cons rfl (fun K hK => ?_) (AllReadyH.nil)
      refine step_append_row _ (by rfl) (.tmp 9) (.tmp 13) 50 (by rfl) w.heap.size 96 j0 _ 3 32 Try.underlying50 Hj0.out hy0 hy1 hy2 rfl (by decide) x2 (by rfl) (J21.out.r2 _ _ _ rfl) 0 (.slice wa R.wait.length wc) R.wait.length (rpsVals R.wait) (by rfl) (HW.out _ J21.out.bel) O2.out M3.out M4.out J21.out.bel.size ?_; intro y2 n2 z22 ho hg; have J22 := Lib.hid (J21.out.a2 ho hg); clear ho hg
      refine hK.out _ _ ?_ (fun hHeld => ?_)
      · exact HS.out _ J22.out.bel
      clear hK K
      (try simp only [Act.put, List.setIfInBounds_toArray, List.set_cons_zero, List.set_cons_succ])
      refine held_take (i := 32) (v := ?_) rfl (by kernel_rfl) (by kernel_rfl) (by kernel_rfl) (fun _ _ _ h => h) (by rfl) (fun w hSw => ?_) (by assumption) ?_
      rotate_left
      · ((try dsimp only at hSw); go_simp; (try with_reducible rfl))
      (try simp only [Act.put, List.setIfInBounds_toArray, List.set_cons_zero, List.set_cons_succ])
      refine wpAnyH_ready (rs := [33]) (by kernel_rfl) (by simp) ?_
      refine held_cons rfl (fun K hK => ?_) (AllReadyH.nil)
      go_simp
      refine hK.out _ _ ?_ (fun hHeld => ?_)
      · exact HS.out _ (J22.out.bel.alloc J22.out.bel.size _)
      clear hK K
      (try simp only [Act.put, List.setIfInBounds_toArray, List.set_cons_zero, List.set_cons_succ])
      refine held_take (i := 34) (v := ?_) rfl (by kernel_rfl) (by kernel_rfl) (by kernel_rfl) (fun _ _ _ h => h) (by rfl) (fun w hSw => ?_) (by assumption) ?_
      rotate_left
      · ((try dsimp only at hSw); go_simp; (try with_reducible rfl))
      (try simp only [Act.put, List.setIfInBounds_toArray, List.set_cons_zero, List.set_cons_succ])
      refine wpAnyH_done (by kernel_rfl) ?_ _
      refine NoPanic.normal ?_
    rotate_left 1
    focus
      refine step_build0 _ (by rfl) 50 96 (by rfl) Try.underlying50 j0 Hj0.out 3 ?_; intro x2 z11 ho hb; have J11 := Lib.hid (J10.out.b2 ho hb); clear ho hb
      refine hK.out _ _ ?_ (fun hHeld => ?_)
      · exact HS.out _ J11.out.bel
      clear hK K
      (try simp only [Act.put, List.setIfInBounds_toArray, List.set_cons_zero, List.set_cons_succ])
      refine wpAnyH_ready (rs := [5]) (by kernel_rfl) (by simp) ?_
      refine held_cons rfl (fun K hK => ?_) (AllReadyH.nil)
      refine step_append_row _ (by rfl) (.tmp 3) (.tmp 7) 49 (by rfl) w.heap.size 94 i0 _ 4 56 Try.underlying49 Hi0.out hz0 hz1 hz2 rfl (by decide) x1 (by rfl) (J11.out.r1 _ _ _ rfl) 0 (.slice fa R.files.length fc) R.files.length (rfsVals R.files) (by rfl) (HF.out _ J11.out.bel) O1.out M1.out M2.out J11.out.bel.size ?_; intro y1 n1 z21 ho hg; have J21 := Lib.hid (J11.out.a1 ho hg); clear ho hg
      refine hK.out _ _ ?_ (fun hHeld => ?_)
      · exact HS.out _ J21.out.bel
      clear hK K
      (try simp only [Act.put, List.setIfInBounds_toArray, List.set_cons_zero, List.set_cons_succ])
      refine wpAnyH_ready (rs := [11]) (by kernel_rfl) (by simp) ?_
      refine held_cons rfl (fun K hK => ?_) (AllReadyH.nil)
      refine step_append_row _ (by rfl) (.tmp 9) (.tmp 13) 50 (by rfl) w.heap.size 96 j0 _ 3 32 Try.underlying50 Hj0.out hy0 hy1 hy2 rfl (by decide) x2 (by rfl) (J21.out.r2 _ _ _ rfl) 0 (.slice wa R.wait.length wc) R.wait.length (rpsVals R.wait) (by rfl) (HW.out _ J21.out.bel) O2.out M3.out M4.out J21.out.bel.size ?_; intro y2 n2 z22 ho hg; have J22 := Lib.hid (J21.out.a2 ho hg); clear ho hg
      refine hK.out _ _ ?_ (fun hHeld => ?_)
      · exact HS.out _ J22.out.bel
      clear hK K
      (try simp only [Act.put, List.setIfInBounds_toArray, List.set_cons_zero, List.set_cons_succ])
      refine held_take (i := 32) (v := ?_) rfl (by kernel_rfl) (by kernel_rfl) (by kernel_rfl) (fun _ _ _ h => h) (by rfl) (fun w hSw => ?_) (by assumption) ?_
      rotate_left
      · ((try dsimp only at hSw); go_simp; (try with_reducible rfl))
      (try simp only [Act.put, List.setIfInBounds_toArray, List.set_cons_zero, List.set_cons_succ])
      refine wpAnyH_ready (rs := [33]) (by kernel_rfl) (by simp) ?_
      refine held_cons rfl (fun K hK => ?_) (AllReadyH.nil)
      go_simp
      refine hK.out _ _ ?_ (fun hHeld => ?_)
      · exact HS.out _ (J22.out.bel.alloc J22.out.bel.size _)
      clear hK K
      (try simp only [Act.put, List.setIfInBounds_toArray, List.set_cons_zero, List.set_cons_succ])
      refine held_take (i := 34) (v := ?_) rfl (by kernel_rfl) (by kernel_rfl) (by kernel_rfl) (fun _ _ _ h => h) (by rfl) (fun w hSw => ?_) (by assumption) ?_
      rotate_left
      · ((try dsimp only at hSw); go_simp; (try with_reducible rfl))
      (try simp only [Act.put, List.setIfInBounds_toArray, List.set_cons_zero, List.set_cons_succ])
      refine wpAnyH_done (by kernel_rfl) ?_ _
      refine NoPanic.normal ?_
  rotate_left 2
  focus
    refine step_build0 _ (by rfl) 50 96 (by rfl) Try.underlying50 j0 Hj0.out 3 ?_; intro x2 z01 ho hb; have J01 := Lib.hid (J00.out.b2 ho hb); clear ho hb
    refine hK.out _ _ ?_ (fun hHeld => ?_)
    · exact HS.out _ J01.out.bel
    clear hK K
    (try simp only [Act.put, List.setIfInBounds_toArray, List.set_cons_zero, List.set_cons_succ])
    refine wpAnyH_ready (rs := [0]) (by kernel_rfl) (by simp) ?_
    refine held_cons rfl (fun K hK => ?_) (AllReadyH.nil)
    refine step_build0 _ (by rfl) 49 94 (by rfl) Try.underlying49 i0 Hi0.out 4 ?_; intro x1 z11 ho hb; have J11 := Lib.hid (J01.out.b1 ho hb); clear ho hb
    refine hK.out _ _ ?_ (fun hHeld => ?_)
    · exact HS.out _ J11.out.bel
    clear hK K
    (try simp only [Act.put, List.setIfInBounds_toArray, List.set_cons_zero, List.set_cons_succ])
    refine wpAnyH_ready (rs := [5]) (by kernel_rfl) (by simp) ?_
    refine held_cons rfl (fun K hK => ?_) (AllReadyH.nil)
    refine step_append_row _ (by rfl) (.tmp 3) (.tmp 7) 49 (by rfl) w.heap.size 94 i0 _ 4 56 Try.underlying49 Hi0.out hz0 hz1 hz2 rfl (by decide) x1 (by rfl) (J11.out.r1 _ _ _ rfl) 0 (.slice fa R.files.length fc) R.files.length (rfsVals R.files) (by rfl) (HF.out _ J11.out.bel) O1.out M1.out M2.out J11.out.bel.size ?_; intro y1 n1 z21 ho hg; have J21 := Lib.hid (J11.out.a1 ho hg); clear ho hg
    refine hK.out _ _ ?_ (fun hHeld => ?_)
    · exact HS.out _ J21.out.bel
    clear hK K
    (try simp only [Act.put, List.setIfInBounds_toArray, List.set_cons_zero, List.set_cons_succ])
    refine wpAnyH_ready (rs := [11]) (by kernel_rfl) (by simp) ?_
    refine held_cons rfl (fun K hK => ?_) (AllReadyH.nil)
    refine step_append_row _ (by rfl) (.tmp 9) (.tmp 13) 50 (by rfl) w.heap.size 96 j0 _ 3 32 Try.underlying50 Hj0.out hy0 hy1 hy2 rfl (by decide) x2 (by rfl) (J21.out.r2 _ _ _ rfl) 0 (.slice wa R.wait.length wc) R.wait.length (rpsVals R.wait) (by rfl) (HW.out _ J21.out.bel) O2.out M3.out M4.out J21.out.bel.size ?_; intro y2 n2 z22 ho hg; have J22 := Lib.hid (J21.out.a2 ho hg); clear ho hg
    refine hK.out _ _ ?_ (fun hHeld => ?_)
    · exact HS.out _ J22.out.bel
    clear hK K
    (try simp only [Act.put, List.setIfInBounds_toArray, List.set_cons_zero, List.set_cons_succ])
    refine held_take (i := 32) (v := ?_) rfl (by kernel_rfl) (by kernel_rfl) (by kernel_rfl) (fun _ _ _ h => h) (by rfl) (fun w hSw => ?_) (by assumption) ?_
    rotate_left
    · ((try dsimp only at hSw); go_simp; (try with_reducible rfl))
    (try simp only [Act.put, List.setIfInBounds_toArray, List.set_cons_zero, List.set_cons_succ])
    refine wpAnyH_ready (rs := [33]) (by kernel_rfl) (by simp) ?_
    refine held_cons rfl (fun K hK => ?_) (AllReadyH.nil)
    go_simp
    refine hK.out _ _ ?_ (fun hHeld => ?_)
    · exact HS.out _ (J22.out.bel.alloc J22.out.bel.size _)
    clear hK K
    (try simp only [Act.put, List.setIfInBounds_toArray, List.set_cons_zero, List.set_cons_succ])
    refine held_take (i := 34) (v := ?_) rfl (by kernel_rfl) (by kernel_rfl) (by kernel_rfl) (fun _ _ _ h => h) (by rfl) (fun w hSw => ?_) (by assumption) ?_
    rotate_left
    · ((try dsimp only at hSw); go_simp; (try with_reducible rfl))
    (try simp only [Act.put, List.setIfInBounds_toArray, List.set_cons_zero, List.set_cons_succ])
    refine wpAnyH_done (by kernel_rfl) ?_ _
    refine NoPanic.normal ?_
  all_goals go_wp2_with fail
  all_goals go_ret
  all_goals exact ⟨_, (HFIN.out _ _ _ J22.out).choose, rfl, (HFIN.out _ _ _ J22.out).choose_spec⟩
end Go.Proofs.Ytlmodbaeoheiiaa
