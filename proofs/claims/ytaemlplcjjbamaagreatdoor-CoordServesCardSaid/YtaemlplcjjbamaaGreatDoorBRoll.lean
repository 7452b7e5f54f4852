/- A byte slice anywhere in its block (what is left of a row that was cut from its front), and append to it. No condition. The plain words of press: chains of places, copies, what a pressed text is, and that it is read back. No condition. The plain words of deltas: steps, what they make, their bytes, and that these are read back. No condition. The walks of roll: a text's weak sum, a window that rolls: only that they are numbers in their bounds, and where the window stands. Condition: the sizes. -/
import Derived.Test.YtaemlplcjjbamaaGreatDoorBHeld
import Derived.Test.YtaemlplcjjbamaaGreatDoorBKn
import Derived.Deep.AppendSrc
import Derived.BigQuiet
import Derived.Deep.QuietTactic
namespace Go.Proofs.YtaemlplcjjbamaaGreatDoor
open Go Go.RowKit
set_option linter.unusedVariables false
def TxAt (w : World) (base : Nat) (v : Value) (L : List UInt8) : Prop :=
  ∃ ad cap, v = .slice ad L.length cap ∧ L.length ≤ cap ∧ cap ≤ maxLen ∧
    ((ad = none ∧ cap = 0) ∨ ∃ g off cs, ad = some ⟨g, off, none⟩ ∧ base ≤ g ∧ Blk w g cs 5 ∧ off + cap ≤ cs.length ∧ (cs.drop off).take L.length = u8s L)
theorem TxAt.nil (w : World) (base : Nat) : TxAt w base (.slice none 0 0) [] := ⟨none, 0, rfl, Nat.le_refl _, Nat.zero_le _, Or.inl ⟨rfl, rfl⟩⟩
theorem TxAt.shape {w : World} {base : Nat} {v : Value} {L : List UInt8} (h : TxAt w base v L) : ∃ ad cap, v = .slice ad L.length cap ∧ L.length ≤ cap := by
  obtain ⟨ad, cap, e, h1, _⟩ := h
  exact ⟨ad, cap, e, h1⟩
theorem TxAt.lt {w : World} {base : Nat} {v : Value} {L : List UInt8} (h : TxAt w base v L) : ∀ g, v.ownBlock = some g → base ≤ g ∧ g < w.heap.size := by
  obtain ⟨ad, cap, rfl, h1, h2, ⟨rfl, _⟩ | ⟨g, off, cs, rfl, hb, hB, _⟩⟩ := h
  · intro g hg; simp [Value.ownBlock] at hg
  · intro g' hg
    simp [Value.ownBlock] at hg
    subst hg
    exact ⟨hb, hB.lt⟩
theorem TxAt.ne {w : World} {base : Nat} {v : Value} {L : List UInt8} (h : TxAt w base v L) {b : Nat} {cs : List Value} {T : TypeId} (hb : Blk w b cs T) (hT : 5 ≠ T) : v.ownBlock ≠ some b := by
  obtain ⟨ad, cap, rfl, h1, h2, ⟨rfl, _⟩ | ⟨g, off, cs', rfl, hg, hB, _⟩⟩ := h
  · simp [Value.ownBlock]
  · intro e
    simp [Value.ownBlock] at e
    subst e
    exact hB.ne hb hT rfl
theorem TxAt.ne_row {w : World} {base base' : Nat} {v v' : Value} {L : List UInt8} {e : TypeId} {sz n : Nat} {xs : List Value} (h : TxAt w base v L) (h' : w.ownsRow base' e sz v' n xs) (hT : 5 ≠ e) {g : Nat} (hg : v.ownBlock = some g) : v'.ownBlock ≠ some g := by
  obtain ⟨ad, cap, rfl, h1, h2, ⟨rfl, _⟩ | ⟨g1, off, cs', rfl, hg1, hB, _⟩⟩ := h
  · simp [Value.ownBlock] at hg
  · simp [Value.ownBlock] at hg
    subst hg
    exact row_ne h' hB (Ne.symm hT)
theorem TxAt.touch {T : Nat → Prop} {w w' : World} {base : Nat} {v : Value} {L : List UInt8} (h : TxAt w base v L) (ht : Touch T w w') (hT : ∀ g, v.ownBlock = some g → ¬ T g) : TxAt w' base v L := by
  obtain ⟨ad, cap, rfl, h1, h2, ⟨rfl, h3⟩ | ⟨g, off, cs, rfl, hb, hB, h4, h5⟩⟩ := h
  · exact ⟨none, cap, rfl, h1, h2, Or.inl ⟨rfl, h3⟩⟩
  · exact ⟨_, cap, rfl, h1, h2, Or.inr ⟨g, off, cs, rfl, hb, hB.touch ht (hT g rfl), h4, h5⟩⟩
theorem TxAt.below {w w' : World} {base : Nat} {v : Value} {L : List UInt8} (h : TxAt w base v L) (hb : Below w.heap.size w w') : TxAt w' base v L := h.touch (T := fun _ => False) (Touch.of_below hb) (fun _ _ h => h)
theorem TxAt.grown {w w' : World} {base : Nat} {v : Value} {L : List UInt8} {row : Option Nat} (h : TxAt w base v L) (hg : w.grownBy w' row) (hr : ∀ g, v.ownBlock = some g → row ≠ some g) : TxAt w' base v L := by
  obtain ⟨ad, cap, rfl, h1, h2, ⟨rfl, h3⟩ | ⟨g, off, cs, rfl, hb, hB, h4, h5⟩⟩ := h
  · exact ⟨none, cap, rfl, h1, h2, Or.inl ⟨rfl, h3⟩⟩
  · exact ⟨_, cap, rfl, h1, h2, Or.inr ⟨g, off, cs, rfl, hb, blk_grown hB hg (hr g rfl), h4, h5⟩⟩
/-- what is left behind a cut -/
theorem TxAt.cut {w : World} {base : Nat} {ad : Option Addr} {cap : Nat} {L : List UInt8} (h : TxAt w base (.slice ad L.length cap) L) (n : Nat) (hn : n ≤ L.length) : TxAt w base (.slice (if cap = n then ad else ad.map (·.add n)) (L.length - n) (cap - n)) (L.drop n) := by
  obtain ⟨ad', cap', e, h1, h2, h3⟩ := h
  simp only [Value.slice.injEq, true_and] at e
  obtain ⟨rfl, rfl⟩ := e
  refine ⟨_, _, by rw [List.length_drop], by rw [List.length_drop]; omega, by omega, ?_⟩
  rcases h3 with ⟨rfl, h3⟩ | ⟨g, off, cs, rfl, hb, hB, h4, h5⟩
  · exact Or.inl ⟨by simp, by omega⟩
  · by_cases hc : cap = n
    · rw [if_pos hc]
      refine Or.inr ⟨g, off, cs, rfl, hb, hB, by omega, ?_⟩
      rw [List.length_drop, show L.length - n = 0 by omega, List.take_zero, List.drop_of_length_le (by omega)]; rfl
    · rw [if_neg hc]
      refine Or.inr ⟨g, off + n, cs, by simp [Addr.add], hb, hB, by omega, ?_⟩
      rw [List.length_drop, ← List.drop_drop, ← List.drop_take, h5]
      unfold u8s
      rw [List.map_drop]
/-- the text of its first bytes -/
theorem TxAt.conv {w : World} {base : Nat} {ad : Option Addr} {cap cap' : Nat} {L : List UInt8} (h : TxAt w base (.slice ad L.length cap) L) (n : Nat) (hn : n ≤ L.length) (h0 : 0 < n) : (convert 108 9 (.slice ad n cap')).run Tryz.prog w = .ok (.string (ba (L.take n))) w := by
  obtain ⟨ad', cap1, e, h1, h2, h3⟩ := h
  simp only [Value.slice.injEq, true_and] at e
  obtain ⟨rfl, rfl⟩ := e
  rcases h3 with ⟨rfl, h3⟩ | ⟨g, off, cs, rfl, hb, hB, h4, h5⟩
  · omega
  · have hl : (L.take n).length = n := by rw [List.length_take]; omega
    have := run_convert_bytes_back (P := Tryz.prog) w 108 9 5 ⟨g, off, none⟩ cap' (L.take n) Tryz.underlying108 Tryz.underlying5 Tryz.underlying9 (by
      intro j hj
      rw [show (⟨g, off, none⟩ : Addr).add j = ⟨g, off + j, none⟩ by unfold Addr.add; split <;> simp_all, hB.cell (off + j)]
      have h6 : ((cs.drop off).take L.length)[j]? = (u8s L)[j]? := by rw [h5]
      rw [List.getElem?_take_of_lt (by omega), List.getElem?_drop] at h6
      rw [h6]
      unfold u8s
      rw [List.getElem?_map, List.getElem?_eq_getElem (by omega), List.getElem_take]
      rfl)
    rw [hl] at this
    exact this
theorem append_nothing {P : Program} (w : World) (t tx ty e : TypeId) (i : TypeInfo) (ht : P.underlying t = some (.slice e)) (hi : P.info? e = some i) (base : Option Addr) (sLen sCap : Nat) (hle : sLen ≤ sCap) (x : Value) (hs : Src P i.size tx x 0 [] w) :
    (Builtin.append_ #[t, tx] ty #[.slice base sLen sCap, x]).run P w = .ok (.slice base sLen sCap) w := by
  rcases hs.kind with ⟨e', hk⟩ | hk <;> cases base <;> simp [Builtin.append_, run_underlying ht, run_underlying hk, sizeOf, typeInfo, hi, hs.len, hle, hs.cells, storeCells]
theorem room_off {P : Program} (w : World) (t tx ty e : TypeId) (i : TypeInfo) (ht : P.underlying t = some (.slice e)) (hi : P.info? e = some i) (hs1 : i.size = 1)
    (g off sLen sCap : Nat) (cur : Array Value) (hg : w.heap[g]? = some (.cells cur e (0, 0))) (x : Value) (n : Nat) (news : List Value) (hs : Src P 1 tx x n news w)
    (hroom : sLen + n ≤ sCap) (hfit : off + sLen + news.length ≤ cur.size) :
    (Builtin.append_ #[t, tx] ty #[.slice (some ⟨g, off, none⟩) sLen sCap, x]).run P w =
      .ok (.slice (some ⟨g, off, none⟩) (sLen + n) sCap) (w.setRow g (cur.toList.take (off + sLen) ++ news ++ cur.toList.drop (off + sLen + news.length)).toArray) := by
  have hst := run_storeCells_at P g (off + sLen) e news 0 cur w hg (by simpa using hfit) hs.one
  simp only [Nat.add_zero] at hst
  have hc := hs.cells
  rcases hs.kind with ⟨e', hk⟩ | hk <;> simp [Builtin.append_, run_underlying ht, run_underlying hk, sizeOf, typeInfo, hi, hs1, hs.len, hroom, hc, Addr.add_lit, hst]
/-- the law: n bytes more -/
theorem tx_append (w : World) (base : Nat) (v : Value) (L M : List UInt8) (x : Value) (tx ty : TypeId) (h : TxAt w base v L) (hs : Src Tryz.prog 1 tx x M.length (u8s M) w) (hlen : L.length + M.length ≤ 1099511627776) (hbase : base ≤ w.heap.size) :
    ∃ ad cap w', (Builtin.append_ #[108, tx] ty #[v, x]).run Tryz.prog w = .ok (.slice ad (L.length + M.length) cap) w' ∧ TxAt w' base (.slice ad (L.length + M.length) cap) (L ++ M) ∧ w.grownBy w' v.ownBlock ∧
      ((Value.slice ad (L.length + M.length) cap).ownBlock = v.ownBlock ∨ (Value.slice ad (L.length + M.length) cap).ownBlock = some w.heap.size) := by
  obtain ⟨i0, hi, hz0, hz1, hz2⟩ := info_parts info_u8
  obtain ⟨ad, cap, rfl, h1, h2, h3⟩ := h
  have hll : (L ++ M).length = L.length + M.length := List.length_append
  have grow : cap < L.length + M.length → (Builtin.firstCells 1 L.length (.slice ad L.length cap)).run Tryz.prog w.drew = .ok (u8s L).toArray w.drew →
      ∃ ad' cap' w', (Builtin.append_ #[108, tx] ty #[.slice ad L.length cap, x]).run Tryz.prog w = .ok (.slice ad' (L.length + M.length) cap') w' ∧ TxAt w' base (.slice ad' (L.length + M.length) cap') (L ++ M) ∧ w.grownBy w' (Value.slice ad L.length cap).ownBlock ∧
      ((Value.slice ad' (L.length + M.length) cap').ownBlock = (Value.slice ad L.length cap).ownBlock ∨ (Value.slice ad' (L.length + M.length) cap').ownBlock = some w.heap.size) := by
    intro hg hold
    have hm : L.length + M.length ≤ maxLen := by unfold maxLen; omega
    have hrun := run_append_grow_src (P := Tryz.prog) w 108 tx ty 5 i0 (.int .u8 0) Tryz.underlying108 hi hz0 ad L.length cap (u8s L) (by rw [hz1]; exact hold) x M.length (u8s M) (by rw [hz1]; exact hs) hg (by omega) (growslice_fits hg (by rw [hz2]; omega))
    have hge := grownCap_ge w (L.length + M.length) cap 5
    have hcm := grownCap_le_maxLen w (L.length + M.length) cap 5 hm
    refine ⟨_, _, _, hrun, ⟨_, _, by rw [hll], by rw [hll]; exact hge, hcm, Or.inr ⟨w.heap.size, 0, (u8s L ++ u8s M) ++ (Builtin.zeroCells (Value.int .u8 0).cells (grownCap w (L.length + M.length) cap 5 - (L.length + M.length))).toList, rfl, hbase, ?_, ?_, ?_⟩⟩, ⟨rfl, rfl, rfl, by simp, fun k hk _ => Below.heap_alloc w.drew _ k hk⟩, Or.inr rfl⟩
    · unfold Blk
      have := heap_alloc_new w.drew (.cells ((u8s L ++ u8s M).toArray ++ Builtin.zeroCells (Value.int .u8 0).cells (grownCap w (L.length + M.length) cap 5 - (L.length + M.length))) 5 (0, 0))
      refine this.trans (congrArg (fun z => some (Obj.cells z 5 (0, 0))) ?_)
      apply Array.ext'
      rw [Array.toList_append]
    · have hz : (Builtin.zeroCells (Value.int .u8 0).cells (grownCap w (L.length + M.length) cap 5 - (L.length + M.length))).toList.length = grownCap w (L.length + M.length) cap 5 - (L.length + M.length) := by
        rw [Array.length_toList, size_zeroCells]
        exact Nat.mul_one _
      rw [List.length_append, List.length_append, u8s_length, u8s_length, hz]
      omega
    · have hul : (u8s L ++ u8s M).length = (L ++ M).length := by rw [List.length_append, u8s_length, u8s_length, hll]
      rw [List.drop_zero, ← hul, List.take_left]
      unfold u8s
      rw [List.map_append]
  rcases h3 with ⟨rfl, rfl⟩ | ⟨g, off, cs, rfl, hb, hB, h4, h5⟩
  · have hL : L = [] := List.eq_nil_of_length_eq_zero (by omega)
    subst hL
    by_cases hM : M = []
    · subst hM
      exact ⟨none, 0, w, append_nothing (P := Tryz.prog) w 108 tx ty 5 i0 Tryz.underlying108 hi none 0 0 (Nat.le_refl _) x (by rw [hz1]; exact hs), TxAt.nil _ _, ⟨rfl, rfl, rfl, Nat.le_refl _, fun _ _ _ => rfl⟩, Or.inl rfl⟩
    · exact grow (by have := List.length_pos_iff.2 hM; simp; omega) (run_firstCells_none w.drew 1 0 0 0)
  · by_cases hroom : L.length + M.length ≤ cap
    · have hrun := room_off (P := Tryz.prog) w 108 tx ty 5 i0 Tryz.underlying108 hi hz1 g off L.length cap cs.toArray hB x M.length (u8s M) hs hroom (by rw [u8s_length]; simp; omega)
      refine ⟨_, _, _, hrun, ⟨_, _, by rw [hll], by rw [hll]; exact hroom, h2, Or.inr ⟨g, off, cs.take (off + L.length) ++ u8s M ++ cs.drop (off + L.length + M.length), rfl, hb, ?_, ?_, ?_⟩⟩, ⟨rfl, rfl, rfl, by simp, fun k _ hk => setRow_other w g k _ (fun e => hk (by simp [Value.ownBlock, e]))⟩, Or.inl rfl⟩
      · unfold Blk
        rw [setRow_heap w g _ _ _ _ hB, u8s_length]
      · simp only [List.length_append, List.length_take, List.length_drop, u8s_length]
        omega
      · rw [hll, List.append_assoc, List.drop_append_of_le_length (by rw [List.length_take]; omega), List.drop_take, show off + L.length - off = L.length by omega, h5, ← List.append_assoc, show L.length + M.length = (u8s L ++ u8s M).length by rw [List.length_append, u8s_length, u8s_length], List.take_left]
        unfold u8s
        rw [List.map_append]
    · refine grow (by omega) (run_firstCells_some w.drew 1 L.length ⟨g, off, none⟩ L.length cap (u8s L) (by rw [u8s_length, Nat.mul_one]) ?_)
      intro j u hu
      rw [show (⟨g, off, none⟩ : Addr).add j = ⟨g, off + j, none⟩ by unfold Addr.add; split <;> simp_all]
      show w.cell? ⟨g, off + j, none⟩ = some u
      have hj : j < L.length := by
        have := (List.getElem?_eq_some_iff.1 hu).1
        rw [u8s_length] at this
        exact this
      rw [hB.cell (off + j)]
      rw [← h5, List.getElem?_take_of_lt hj, List.getElem?_drop] at hu
      exact hu
theorem wp_append_tx {o : Oper} {a : Act} {w : World} {K : Act → World → Prop} {Q : Exit → Act → World → Prop} (s x : Operand) (tx : TypeId)
    (ho : o.op = .call { callee := .builtin .append, args := #[s, x], argTypes := #[108, tx] })
    (base : Nat) (v : Value) (L M : List UInt8) (hs : a.eval s = v) (h : TxAt w base v L) (hx : Src Tryz.prog 1 tx (a.eval x) M.length (u8s M) w) (hlen : L.length + M.length ≤ 1099511627776) (hbase : base ≤ w.heap.size)
    (hk : ∀ ad cap w', TxAt w' base (.slice ad (L.length + M.length) cap) (L ++ M) → w.grownBy w' v.ownBlock → ((Value.slice ad (L.length + M.length) cap).ownBlock = v.ownBlock ∨ (Value.slice ad (L.length + M.length) cap).ownBlock = some w.heap.size) → K (a.put o.dst (.slice ad (L.length + M.length) cap)) w') : o.wp Tryz.prog a w K Q := by
  obtain ⟨ad, cap, w', hr, h2, h3, h4⟩ := tx_append w base v L M (a.eval x) tx o.type h hx hlen hbase
  unfold Oper.wp execOp
  simp only [ho, resolve, invoke, builtin, Sem.run_bind, Sem.run_pure, Result.andThen_ok, List.map_toArray, List.map_cons, List.map_nil, hs, hr]
  exact hk ad cap w' h2 h3 h4
theorem wpList_append_tx {ops : Array Oper} {rest : List Oper} {o : Oper} {a : Act} {w : World} {Q : Exit → Act → World → Prop} (hgd : o.guard = none) (s x : Operand) (tx : TypeId)
    (ho : o.op = .call { callee := .builtin .append, args := #[s, x], argTypes := #[108, tx] })
    (base : Nat) (v : Value) (L M : List UInt8) (hs : a.eval s = v) (h : TxAt w base v L) (hx : Src Tryz.prog 1 tx (a.eval x) M.length (u8s M) w) (hlen : L.length + M.length ≤ 1099511627776) (hbase : base ≤ w.heap.size)
    (hk : ∀ ad cap w', TxAt w' base (.slice ad (L.length + M.length) cap) (L ++ M) → w.grownBy w' v.ownBlock → ((Value.slice ad (L.length + M.length) cap).ownBlock = v.ownBlock ∨ (Value.slice ad (L.length + M.length) cap).ownBlock = some w.heap.size) → wpList Tryz.prog ops Q rest (a.put o.dst (.slice ad (L.length + M.length) cap)) w') : wpList Tryz.prog ops Q (o :: rest) a w :=
  wpList_plain hgd fun _ hK => wp_append_tx s x tx ho base v L M hs h hx hlen hbase fun ad cap w' h2 h3 h4 => hK _ _ (hk ad cap w' h2 h3 h4)
theorem step_append_tx {ops : Array Oper} {o : Oper} {a : Act} {w : World} {K : Act → World → Prop} {Q : Exit → Act → World → Prop} {E : Prop} (hgd : o.guard = none) (s x : Operand) (tx : TypeId)
    (ho : o.op = .call { callee := .builtin .append, args := #[s, x], argTypes := #[108, tx] })
    (base : Nat) (v : Value) (L M : List UInt8) (hs : a.eval s = v) (h : TxAt w base v L) (hx : Src Tryz.prog 1 tx (a.eval x) M.length (u8s M) w) (hlen : L.length + M.length ≤ 1099511627776) (hbase : base ≤ w.heap.size)
    (hk : ∀ ad cap w', TxAt w' base (.slice ad (L.length + M.length) cap) (L ++ M) → w.grownBy w' v.ownBlock → ((Value.slice ad (L.length + M.length) cap).ownBlock = v.ownBlock ∨ (Value.slice ad (L.length + M.length) cap).ownBlock = some w.heap.size) → K (a.put o.dst (.slice ad (L.length + M.length) cap)) w') :
    if Region.wanted o (yielded ops a.tmps) = true then Oper.wp Tryz.prog o a w K Q else E := by
  have hw : Region.wanted o (yielded ops a.tmps) = true := by simp [Region.wanted, hgd]
  rw [if_pos hw]
  exact wp_append_tx s x tx ho base v L M hs h hx hlen hbase hk
end Go.Proofs.YtaemlplcjjbamaaGreatDoor
namespace Go.Proofs.YtaemlplcjjbamaaGreatDoor
set_option linter.unusedVariables false
/-- the bytes at which two texts are alike, at most so many -/
def lcp : Nat → List UInt8 → List UInt8 → Nat
  | 0, _, _ => 0
  | n + 1, [], _ => 0
  | n + 1, _ :: _, [] => 0
  | n + 1, c :: x, d :: y => if c = d then lcp n x y + 1 else 0
theorem lcp_le (n : Nat) : ∀ x y : List UInt8, lcp n x y ≤ n ∧ lcp n x y ≤ y.length := by
  induction n with
  | zero => intro x y; simp [lcp]
  | succ n ih =>
    intro x y
    match x, y with
    | [], _ => simp [lcp]
    | _ :: _, [] => simp [lcp]
    | c :: x, d :: y =>
      unfold lcp
      by_cases h : c = d
      · rw [if_pos h]
        have := ih x y
        simp only [List.length_cons]
        omega
      · rw [if_neg h]; simp
theorem lcp_at (n : Nat) : ∀ (x y : List UInt8) (j : Nat), j < lcp n x y → x[j]? = y[j]? := by
  induction n with
  | zero => intro x y j h; simp [lcp] at h
  | succ n ih =>
    intro x y j h
    match x, y with
    | [], _ => simp [lcp] at h
    | _ :: _, [] => simp [lcp] at h
    | c :: x, d :: y =>
      unfold lcp at h
      by_cases e : c = d
      · rw [if_pos e] at h
        match j with
        | 0 => simp [e]
        | j + 1 => simp only [List.getElem?_cons_succ]; exact ih x y j (by omega)
      · rw [if_neg e] at h; omega
def pslot (L : List UInt8) (i : Nat) : Nat := ((L.getD i 0).toNat + (L.getD (i + 1) 0).toNat * 256 + (L.getD (i + 2) 0).toNat * 65536 + (L.getD (i + 3) 0).toNat * 16777216) * 2654435761 % 4294967296 / 1048576
theorem pslot_lt (L : List UInt8) (i : Nat) : pslot L i < 4096 := by unfold pslot; omega
/-- what finds copies -/
structure Fd where
  head : List Nat
  prev : List Nat
  done : Nat
def Fd.new (L : List UInt8) : Fd := ⟨List.replicate 4096 0, List.replicate L.length 0, 0⟩
def Fd.put1 (L : List UInt8) (F : Fd) : Fd := ⟨F.head.set (pslot L F.done) (F.done + 1), F.prev.set F.done (F.head.getD (pslot L F.done) 0), F.done + 1⟩
def Fd.puts (L : List UInt8) : Nat → Fd → Fd
  | 0, F => F
  | n + 1, F => Fd.puts L n (F.put1 L)
def Fd.putTo (L : List UInt8) (to_ : Nat) (F : Fd) : Fd := F.puts L (min to_ (L.length - 3) - F.done)
def chainGo (L : List UInt8) (prev : List Nat) (at_ : Nat) : Nat → Nat → Nat → Nat → Nat × Nat
  | 0, _, back, size => (back, size)
  | f + 1, p, back, size =>
    if 0 < p ∧ at_ - (p - 1) ≤ 4096 then
      if size < lcp 259 (L.drop (p - 1)) (L.drop at_) then chainGo L prev at_ f (prev.getD (p - 1) 0) (at_ - (p - 1)) (lcp 259 (L.drop (p - 1)) (L.drop at_))
      else chainGo L prev at_ f (prev.getD (p - 1) 0) back size
    else (back, size)
def Fd.headAt (L : List UInt8) (at_ : Nat) (F : Fd) : Nat := F.head.getD (pslot L at_) 0
def Fd.chain (L : List UInt8) (at_ : Nat) (F : Fd) : Nat × Nat := chainGo L F.prev at_ (F.headAt L at_ + 1) (F.headAt L at_) 0 0
def Fd.longest (L : List UInt8) (at_ : Nat) (F : Fd) : (Nat × Nat) × Fd :=
  if L.length < at_ + 4 then ((0, 0), F)
  else (if ((F.putTo L at_).chain L at_).2 < 4 then (0, 0) else (F.putTo L at_).chain L at_, F.putTo L at_)
structure Fd.Ok (L : List UInt8) (F : Fd) : Prop where
  head : F.head.length = 4096
  prev : F.prev.length = L.length
  le : ∀ x ∈ F.head, x ≤ F.done
  back : ∀ i, F.prev.getD i 0 ≤ i
  done : F.done ≤ L.length
theorem Fd.Ok.headAt {L : List UInt8} {F : Fd} (h : F.Ok L) (i : Nat) : F.head.getD (pslot L i) 0 ≤ F.done := by
  have hl : pslot L i < F.head.length := by rw [h.head]; exact pslot_lt L i
  rw [List.getD_eq_getElem?_getD, List.getElem?_eq_getElem hl]
  exact h.le _ (List.getElem_mem hl)
theorem Fd.new_ok (L : List UInt8) : (Fd.new L).Ok L := by
  refine ⟨List.length_replicate, List.length_replicate, ?_, ?_, Nat.zero_le _⟩
  · intro x hx
    have := List.eq_of_mem_replicate hx
    subst this
    exact Nat.zero_le _
  · intro i
    show (List.replicate L.length 0).getD i 0 ≤ i
    rw [List.getD_eq_getElem?_getD, List.getElem?_replicate]
    by_cases h : i < L.length
    · rw [if_pos h]; exact Nat.zero_le _
    · rw [if_neg h]; exact Nat.zero_le _
theorem Fd.put1_ok {L : List UInt8} {F : Fd} (h : F.Ok L) (hd : F.done < L.length) : (F.put1 L).Ok L := by
  have hh := h.headAt F.done
  refine ⟨by simp [Fd.put1, h.head], by simp [Fd.put1, h.prev], ?_, ?_, hd⟩
  · intro x hx
    rcases List.mem_or_eq_of_mem_set hx with h1 | h1
    · exact Nat.le_succ_of_le (h.le x h1)
    · rw [h1]; exact Nat.le_refl _
  · intro i
    show (F.prev.set F.done _).getD i 0 ≤ i
    rw [List.getD_eq_getElem?_getD, List.getElem?_set]
    by_cases e : F.done = i
    · rw [if_pos e]
      by_cases h2 : F.done < F.prev.length
      · rw [if_pos h2]; subst e; exact hh
      · rw [if_neg h2]; exact Nat.zero_le _
    · rw [if_neg e, ← List.getD_eq_getElem?_getD]; exact h.back i
theorem Fd.puts_ok {L : List UInt8} : ∀ (n : Nat) {F : Fd}, F.Ok L → F.done + n ≤ L.length → (F.puts L n).Ok L ∧ (F.puts L n).done = F.done + n
  | 0, F, h, _ => ⟨h, rfl⟩
  | n + 1, F, h, hn => by
    have := Fd.puts_ok n (Fd.put1_ok h (by omega)) (show F.done + 1 + n ≤ L.length by omega)
    refine ⟨this.1, this.2.trans ?_⟩
    show F.done + 1 + n = F.done + (n + 1)
    omega
theorem Fd.putTo_ok {L : List UInt8} {F : Fd} (to_ : Nat) (h : F.Ok L) (ht : F.done ≤ to_) (hl : to_ ≤ L.length) : (F.putTo L to_).Ok L ∧ (F.putTo L to_).done ≤ to_ := by
  have := Fd.puts_ok (min to_ (L.length - 3) - F.done) h (by omega)
  refine ⟨this.1, ?_⟩
  have h2 := this.2
  show (F.puts L (min to_ (L.length - 3) - F.done)).done ≤ to_
  omega
/-- a copy that may be told -/
def GoodCopy (L : List UInt8) (at_ : Nat) (r : Nat × Nat) : Prop := 1 ≤ r.1 ∧ r.1 ≤ at_ ∧ r.1 ≤ 4096 ∧ r.2 ≤ 259 ∧ at_ + r.2 ≤ L.length ∧ ∀ j, j < r.2 → L[at_ - r.1 + j]? = L[at_ + j]?
theorem chainGo_good {L : List UInt8} {prev : List Nat} {at_ : Nat} (hp : ∀ i, prev.getD i 0 ≤ i) (hat : at_ ≤ L.length) : ∀ (f p back size : Nat), p ≤ at_ → (size = 0 ∨ GoodCopy L at_ (back, size)) → ((chainGo L prev at_ f p back size).2 = 0 ∨ GoodCopy L at_ (chainGo L prev at_ f p back size))
  | 0, p, back, size, _, h => h
  | f + 1, p, back, size, hpa, h => by
    unfold chainGo
    by_cases h1 : 0 < p ∧ at_ - (p - 1) ≤ 4096
    · rw [if_pos h1]
      have hq := hp (p - 1)
      by_cases h2 : size < lcp 259 (L.drop (p - 1)) (L.drop at_)
      · rw [if_pos h2]
        refine chainGo_good hp hat f _ _ _ (by omega) (Or.inr ?_)
        have hl := lcp_le 259 (L.drop (p - 1)) (L.drop at_)
        rw [List.length_drop] at hl
        refine ⟨by show 1 ≤ at_ - (p - 1); omega, by show at_ - (p - 1) ≤ at_; omega, h1.2, hl.1, by show at_ + _ ≤ _; omega, fun j hj => ?_⟩
        have := lcp_at 259 _ _ j hj
        rw [List.getElem?_drop, List.getElem?_drop] at this
        rw [show at_ - (at_ - (p - 1)) + j = p - 1 + j by omega]
        exact this
      · rw [if_neg h2]
        exact chainGo_good hp hat f _ _ _ (by omega) h
    · rw [if_neg h1]; exact h
theorem Fd.longest_ok {L : List UInt8} {F : Fd} (at_ : Nat) (h : F.Ok L) (ht : F.done ≤ at_) (hl : at_ ≤ L.length) : (F.longest L at_).2.Ok L ∧ (F.longest L at_).2.done ≤ at_ ∧ ((F.longest L at_).1.2 = 0 ∨ 4 ≤ (F.longest L at_).1.2 ∧ GoodCopy L at_ (F.longest L at_).1) := by
  unfold Fd.longest
  by_cases h1 : L.length < at_ + 4
  · rw [if_pos h1]; exact ⟨h, ht, Or.inl rfl⟩
  · rw [if_neg h1]
    have h2 := Fd.putTo_ok at_ h ht hl
    refine ⟨h2.1, h2.2, ?_⟩
    have h3 : (F.putTo L at_).headAt L at_ ≤ at_ := Nat.le_trans (h2.1.headAt at_) h2.2
    have h4 := chainGo_good h2.1.back hl ((F.putTo L at_).headAt L at_ + 1) ((F.putTo L at_).headAt L at_) 0 0 h3 (Or.inl rfl)
    show (if ((F.putTo L at_).chain L at_).2 < 4 then (0, 0) else (F.putTo L at_).chain L at_).2 = 0 ∨ _
    by_cases h5 : ((F.putTo L at_).chain L at_).2 < 4
    · rw [if_pos h5]; exact Or.inl rfl
    · rw [if_neg h5]
      refine Or.inr ⟨Nat.le_of_not_lt h5, ?_⟩
      rcases h4 with h4 | h4
      · exact absurd (show ((F.putTo L at_).chain L at_).2 = 0 from h4) (by omega)
      · exact h4
def plainTok (L : List UInt8) (from_ to_ : Nat) : List UInt8 := if from_ < to_ then cnL (2 * (to_ - from_)) ++ (L.drop from_).take (to_ - from_) else []
def pressToks (L : List UInt8) : Nat → Nat → Nat → Fd → List UInt8
  | 0, _, _, _ => []
  | f + 1, at_, from_, F =>
    if at_ < L.length then
      if (F.longest L at_).1.2 = 0 then pressToks L f (at_ + 1) from_ (F.longest L at_).2
      else plainTok L from_ at_ ++ (cnL (2 * ((F.longest L at_).1.2 - 4) + 1) ++ (cnL ((F.longest L at_).1.1 - 1) ++ pressToks L f (at_ + (F.longest L at_).1.2) (at_ + (F.longest L at_).1.2) (F.longest L at_).2))
    else plainTok L from_ L.length
/-- a text, pressed -/
def press (L : List UInt8) : List UInt8 := cnL L.length ++ pressToks L (L.length + 1) 0 0 (Fd.new L)
def copied : List UInt8 → Nat → Nat → List UInt8
  | b, back, 0 => b
  | b, back, n + 1 => copied (b ++ [b.getD (b.length - back) 0]) back n
/-- a text, pressed if that has fewer bytes; the first byte tells -/
def wrapL (L : List UInt8) : List UInt8 := if (press L).length < L.length then 90 :: press L else 82 :: L
theorem wrapL_len (L : List UInt8) : (wrapL L).length ≤ L.length + 1 := by
  unfold wrapL
  by_cases h : (press L).length < L.length
  · rw [if_pos h, List.length_cons]; omega
  · rw [if_neg h, List.length_cons]; exact Nat.le_refl _
end Go.Proofs.YtaemlplcjjbamaaGreatDoor
namespace Go.Proofs.YtaemlplcjjbamaaGreatDoor
set_option linter.unusedVariables false
structure Stp where
  at_ : Int
  len : Int
  text : List UInt8
structure Dl where
  basis : List UInt8
  mark : List UInt8
  size : Int
  steps : List Stp
def Dl.none : Dl := ⟨[], [], 0, []⟩
/-- may a step be, for a basis of some length (below 0: of any)? -/
def stpOk (x : Stp) (basis : Int) : Prop :=
  (x.text ≠ [] ∧ x.at_ = 0 ∧ x.len = 0 ∧ x.text.length ≤ 4096) ∨
  (x.text = [] ∧ 0 < x.len ∧ 0 ≤ x.at_ ∧ x.len ≤ 524288 ∧ x.at_ ≤ 524288 - x.len ∧ (basis < 0 ∨ x.at_ + x.len ≤ basis))
instance (x : Stp) (basis : Int) : Decidable (stpOk x basis) := by unfold stpOk; infer_instance
def stpN (x : Stp) : Int := x.len + (x.text.length : Nat)
def stpOut (B : List UInt8) (x : Stp) : List UInt8 := (B.drop x.at_.toNat).take x.len.toNat ++ x.text
def outS (B : List UInt8) (l : List Stp) : List UInt8 := l.flatMap (stpOut B)
def dlHead (d : Dl) : Prop := d.basis.length = 32 ∧ d.mark.length = 32 ∧ 0 ≤ d.size ∧ d.size ≤ 524288 ∧ d.steps.length ≤ 524288
instance (d : Dl) : Decidable (dlHead d) := by unfold dlHead; infer_instance
theorem stpOk.any {x : Stp} {b : Int} (h : stpOk x b) : stpOk x (-1) := by
  rcases h with h | ⟨h1, h2, h3, h4, h5, _⟩
  · exact Or.inl h
  · exact Or.inr ⟨h1, h2, h3, h4, h5, Or.inl (by decide)⟩
theorem stpOk.n_pos {x : Stp} {b : Int} (h : stpOk x b) : 0 < stpN x := by
  unfold stpN
  rcases h with ⟨h1, h2, h3, h4⟩ | ⟨h1, h2, h3, h4, h5, _⟩
  · have : 0 < x.text.length := List.length_pos_iff.2 h1
    omega
  · rw [h1]; simp; omega
theorem stpOut_len {B : List UInt8} {x : Stp} (h : stpOk x (B.length : Nat)) : ((stpOut B x).length : Int) = stpN x := by
  unfold stpOut stpN
  rw [List.length_append, List.length_take, List.length_drop]
  rcases h with ⟨h1, h2, h3, h4⟩ | ⟨h1, h2, h3, h4, h5, h6⟩
  · rw [h3]; simp
  · rw [h1]
    have : ¬ ((B.length : Nat) : Int) < 0 := by omega
    have h7 := h6.resolve_left this
    simp only [List.length_nil]
    omega
theorem outS_cons (B : List UInt8) (x : Stp) (l : List Stp) : outS B (x :: l) = stpOut B x ++ outS B l := rfl
theorem outS_append (B : List UInt8) (l m : List Stp) : outS B (l ++ m) = outS B l ++ outS B m := by unfold outS; rw [List.flatMap_append]
theorem outS_count {B : List UInt8} : ∀ (l : List Stp), (∀ x ∈ l, stpOk x (B.length : Nat)) → l.length ≤ (outS B l).length
  | [], _ => Nat.zero_le _
  | x :: l, h => by
    have hx := h x (List.mem_cons_self ..)
    have hn := stpOut_len hx
    have hp := hx.n_pos
    have := outS_count l (fun y hy => h y (List.mem_cons_of_mem _ hy))
    rw [outS_cons, List.length_append, List.length_cons]
    omega
def stpB (x : Stp) : List UInt8 := if x.text ≠ [] then cnL (2 * x.text.length) ++ x.text else cnL (2 * x.len + 1).toNat ++ cnL x.at_.toNat
def dlBytes (d : Dl) : List UInt8 := (d.basis ++ d.mark) ++ (cnL d.size.toNat ++ (cnL d.steps.length ++ d.steps.flatMap stpB))
/-- bytes in no step yet, made steps -/
def Chunks (t : List UInt8) (cs : List Stp) : Prop := (∀ x ∈ cs, x.at_ = 0 ∧ x.len = 0 ∧ x.text ≠ [] ∧ x.text.length ≤ 4096) ∧ cs.flatMap Stp.text = t
theorem Chunks.ok {t : List UInt8} {cs : List Stp} (h : Chunks t cs) (B : List UInt8) : (∀ x ∈ cs, stpOk x (B.length : Nat)) ∧ outS B cs = t := by
  obtain ⟨h1, h2⟩ := h
  refine ⟨fun x hx => Or.inl ⟨(h1 x hx).2.2.1, (h1 x hx).1, (h1 x hx).2.1, (h1 x hx).2.2.2⟩, ?_⟩
  rw [← h2]
  clear h2
  induction cs with
  | nil => rfl
  | cons x cs ih =>
    have hx := h1 x (List.mem_cons_self ..)
    rw [outS_cons, ih (fun y hy => h1 y (List.mem_cons_of_mem _ hy))]
    show stpOut B x ++ _ = x.text ++ _
    have : stpOut B x = x.text := by unfold stpOut; rw [hx.2.1]; simp
    rw [this]; rfl
def addCopy (l : List Stp) (at_ n : Int) : List Stp :=
  match l.getLast? with
  | some x => if 0 < x.len ∧ x.at_ + x.len = at_ then l.dropLast ++ [⟨x.at_, x.len + n, x.text⟩] else l ++ [⟨at_, n, []⟩]
  | none => l ++ [⟨at_, n, []⟩]
/-- the steps make what was told, of the basis -/
structure Mk (B : List UInt8) (l : List Stp) (out : List UInt8) : Prop where
  ok : ∀ x ∈ l, stpOk x (B.length : Nat)
  out : outS B l = out
theorem Mk.nil (B : List UInt8) : Mk B [] [] := ⟨fun x hx => (by cases hx), rfl⟩
theorem Mk.add {B : List UInt8} {l cs : List Stp} {out t : List UInt8} (h : Mk B l out) (hc : Chunks t cs) : Mk B (l ++ cs) (out ++ t) := by
  have := hc.ok B
  refine ⟨fun x hx => ?_, by rw [outS_append, h.out, this.2]⟩
  rcases List.mem_append.1 hx with e | e
  · exact h.ok x e
  · exact this.1 x e
theorem Mk.copy {B : List UInt8} {l : List Stp} {out : List UInt8} {at_ n : Nat} (h : Mk B l out) (hn : 0 < n) (ha : at_ + n ≤ B.length) (hB : B.length ≤ 524288) : Mk B (addCopy l (at_ : Nat) (n : Nat)) (out ++ (B.drop at_).take n) := by
  have hnew : Mk B (l ++ [⟨(at_ : Nat), (n : Nat), []⟩]) (out ++ (B.drop at_).take n) := by
    refine ⟨fun x hx => ?_, ?_⟩
    · rcases List.mem_append.1 hx with e | e
      · exact h.ok x e
      · rw [List.mem_singleton.1 e]
        refine Or.inr ⟨rfl, by show (0 : Int) < (n : Nat); omega, by show (0 : Int) ≤ (at_ : Nat); omega, by show ((n : Nat) : Int) ≤ 524288; omega, by show ((at_ : Nat) : Int) ≤ 524288 - (n : Nat); omega, Or.inr (by show ((at_ : Nat) : Int) + (n : Nat) ≤ (B.length : Nat); omega)⟩
    · rw [outS_append, h.out]
      show out ++ (stpOut B _ ++ []) = _
      unfold stpOut
      simp
  unfold addCopy
  match hl : l.getLast? with
  | none => exact hnew
  | some x =>
    show Mk B (if 0 < x.len ∧ x.at_ + x.len = (at_ : Nat) then l.dropLast ++ [⟨x.at_, x.len + (n : Nat), x.text⟩] else l ++ [⟨(at_ : Nat), (n : Nat), []⟩]) _
    by_cases hc : 0 < x.len ∧ x.at_ + x.len = (at_ : Nat)
    · rw [if_pos hc]
      obtain ⟨hx0, hx1⟩ := hc
      have hsp : l = l.dropLast ++ [x] := by
        have hne : l ≠ [] := by rintro rfl; simp at hl
        have := List.dropLast_concat_getLast hne
        rw [List.getLast?_eq_some_getLast hne] at hl
        injection hl with hl
        rw [← hl]
        exact this.symm
      have hxm : x ∈ l := by rw [hsp]; simp
      have hok := h.ok x hxm
      rcases hok with ⟨_, _, h3, _⟩ | ⟨h1, h2, h3, h4, h5, h6⟩
      · omega
      · have h7 := h6.resolve_left (by omega)
        refine ⟨fun y hy => ?_, ?_⟩
        · rcases List.mem_append.1 hy with e | e
          · exact h.ok y (List.mem_of_mem_take (by rw [← List.dropLast_eq_take]; exact e))
          · rw [List.mem_singleton.1 e]
            exact Or.inr ⟨h1, by show (0 : Int) < x.len + (n : Nat); omega, h3, by show x.len + (n : Nat) ≤ 524288; omega, by show x.at_ ≤ 524288 - (x.len + (n : Nat)); omega, Or.inr (by show x.at_ + (x.len + (n : Nat)) ≤ (B.length : Nat); omega)⟩
        · have ho := h.out
          rw [hsp, outS_append] at ho
          rw [outS_append, ← ho, List.append_assoc]
          congr 1
          show stpOut B ⟨x.at_, x.len + (n : Nat), x.text⟩ ++ [] = (stpOut B x ++ []) ++ _
          unfold stpOut
          rw [h1]
          simp only [List.append_nil]
          rw [show (x.len + (n : Nat)).toNat = x.len.toNat + n by omega, show at_ = x.at_.toNat + x.len.toNat by omega, ← List.drop_drop, List.take_add]
    · rw [if_neg hc]; exact hnew
end Go.Proofs.YtaemlplcjjbamaaGreatDoor
namespace Go.Proofs.YtaemlplcjjbamaaGreatDoor
open Go Go.RowKit
set_option linter.unusedVariables false
def rsStep (p : Nat × Nat) (c : UInt8) : Nat × Nat := (p.1 + c.toNat, p.2 + (p.1 + c.toNat))
def rs (l : List UInt8) : Nat × Nat := l.foldl rsStep (0, 0)
theorem rs_snoc (l : List UInt8) (c : UInt8) : rs (l ++ [c]) = rsStep (rs l) c := by unfold rs; rw [List.foldl_append]; rfl
/-- a text's weak sum -/
def wsum (s : ByteArray) : Nat := (rs s.data.toList).1 % 65536 + (rs s.data.toList).2 % 65536 * 65536
theorem wsum_lt (s : ByteArray) : wsum s < 4294967296 := by unfold wsum; omega
set_option maxRecDepth 100000 in
set_option maxHeartbeats 1000000 in
theorem rollSum_any (s : ByteArray) (w : World) (hs : s.size ≤ 1048576) :
    Calls Tryz.prog 173 #[.string s] w fun e w' => e = .returned (.int .i64 (wsum s : Nat)) ∧ w = w' := by
  have hdl : s.data.toList.length = s.size := by simp
  go_enter Tryz.func173, Tryz.ntmps173
  go_wp2
  go_loopw [3, 4, 8] (fun av bv kv wr => ∃ a b k : Nat, av = .int .i64 (a : Int) ∧ bv = .int .i64 (b : Int) ∧ kv = .int .i64 (k : Int) ∧ k ≤ s.size ∧ a ≤ 255 * k ∧ b ≤ 267386880 * k ∧ Hid (rs (s.data.toList.take k) = (a, b)) ∧ w = wr) (fun _ _ kv _ => s.size - (intOf kv).toNat)
  case atStart => exact ⟨0, 0, 0, rfl, rfl, rfl, Nat.zero_le _, by omega, by omega, Lib.hid rfl, rfl⟩
  case round =>
    obtain ⟨a, b, k, rfl, rfl, rfl, hk, ha, hb, HR, rfl⟩ := hrel
    by_cases hlt : k < s.size
    · have hc := UInt8.toNat_lt s[k]
      have hk2 : k ≤ 1048575 := by omega
      have HR2 := Lib.hid (show rs (s.data.toList.take (k + 1)) = (a + s[k].toNat, b + (a + s[k].toNat)) by
        rw [take_snoc s k hlt, rs_snoc, HR.out]; rfl)
      go_wp2
      go_roundw
      case rel => exact ⟨a + s[k].toNat, b + (a + s[k].toNat), k + 1, by go_num, by go_num, by go_num, by omega, by omega, by omega, HR2, trivial⟩
      case measure => simp [intOf]; omega
    · have ha2 : a ≤ 267386880 := by omega
      have hb2 : b ≤ 280375465082880 := by omega
      have HW := Lib.hid (show wsum s = a % 65536 + b % 65536 * 65536 by
        have h := HR.out
        rw [List.take_of_length_le (by omega)] at h
        unfold wsum
        rw [h])
      go_wp2
      go_ret
      exact ⟨ret_int (by rw [HW.out]; omega), rfl⟩
/-- a window of a size over a text, at a place -/
def RollAt (w : World) (r : Nat) (S : List UInt8) (size at_ : Nat) : Prop :=
  ∃ a b : Nat, Blk w r [.string (ba S), .int .i64 (size : Int), .int .i64 (at_ : Int), .int .i64 (a : Int), .int .i64 (b : Int)] 265 ∧ a < 65536 ∧ b < 65536 ∧ at_ + size ≤ S.length
theorem RollAt.below {w w' : World} {r : Nat} {S : List UInt8} {size at_ : Nat} (h : RollAt w r S size at_) (hb : Below w.heap.size w w') : RollAt w' r S size at_ := by
  obtain ⟨a, b, h1, h2, h3, h4⟩ := h
  exact ⟨a, b, h1.below hb, h2, h3, h4⟩
theorem RollAt.touch {T : Nat → Prop} {w w' : World} {r : Nat} {S : List UInt8} {size at_ : Nat} (h : RollAt w r S size at_) (ht : Touch T w w') (hT : ¬ T r) : RollAt w' r S size at_ := by
  obtain ⟨a, b, h1, h2, h3, h4⟩ := h
  exact ⟨a, b, h1.touch ht hT, h2, h3, h4⟩
end Go.Proofs.YtaemlplcjjbamaaGreatDoor
