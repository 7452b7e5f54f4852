/- A byte slice anywhere in its block (what is left of a row that was cut from its front), and append to it. No condition. -/
import Derived.Test.YtogobhpnlndcaaaGreatHeap2
import Derived.Test.YtogobhpnlndcaaaGreatReader
import Derived.Deep.AppendSrc
namespace Go.Proofs.YtogobhpnlndcaaaGreat
open Go Go.RowKit
set_option linter.unusedVariables false

def TxAt (w : World) (base : Nat) (v : Value) (L : List UInt8) : Prop :=
  ∃ ad cap, v = .slice ad L.length cap ∧ L.length ≤ cap ∧ cap ≤ maxLen ∧
    ((ad = none ∧ cap = 0) ∨ ∃ g off cs, ad = some ⟨g, off, none⟩ ∧ base ≤ g ∧ Blk w g cs 5 ∧ off + cap ≤ cs.length ∧ (cs.drop off).take L.length = u8s L)
theorem TxAt.nil (w : World) (base : Nat) : TxAt w base (.slice none 0 0) [] := ⟨none, 0, rfl, Nat.le_refl _, Nat.zero_le _, Or.inl ⟨rfl, rfl⟩⟩
theorem TxAt.shape {w : World} {base : Nat} {v : Value} {L : List UInt8} (h : TxAt w base v L) : ∃ ad cap, v = .slice ad L.length cap ∧ L.length ≤ cap := by
  obtain ⟨ad, cap, e, h1, _⟩ := h
  exact ⟨ad, cap, e, h1⟩
theorem TxAt.lt {w : World} {base : Nat} {v : Value} {L : List UInt8} (h : TxAt w base v L) : ∀ g, v.ownBlock = some g → base ≤ g ∧ g < w.heap.size := by
  obtain ⟨ad, cap, rfl, h1, h2, ⟨rfl, _⟩ | ⟨g, off, cs, rfl, hb, hB, _⟩⟩ := h
  · intro g hg; simp [Value.ownBlock] at hg
  · intro g' hg
    simp [Value.ownBlock] at hg
    subst hg
    exact ⟨hb, hB.lt⟩
theorem TxAt.ne {w : World} {base : Nat} {v : Value} {L : List UInt8} (h : TxAt w base v L) {b : Nat} {cs : List Value} {T : TypeId} (hb : Blk w b cs T) (hT : 5 ≠ T) : v.ownBlock ≠ some b := by
  obtain ⟨ad, cap, rfl, h1, h2, ⟨rfl, _⟩ | ⟨g, off, cs', rfl, hg, hB, _⟩⟩ := h
  · simp [Value.ownBlock]
  · intro e
    simp [Value.ownBlock] at e
    subst e
    exact hB.ne hb hT rfl
theorem TxAt.ne_row {w : World} {base base' : Nat} {v v' : Value} {L : List UInt8} {e : TypeId} {sz n : Nat} {xs : List Value} (h : TxAt w base v L) (h' : w.ownsRow base' e sz v' n xs) (hT : 5 ≠ e) {g : Nat} (hg : v.ownBlock = some g) : v'.ownBlock ≠ some g := by
  obtain ⟨ad, cap, rfl, h1, h2, ⟨rfl, _⟩ | ⟨g1, off, cs', rfl, hg1, hB, _⟩⟩ := h
  · simp [Value.ownBlock] at hg
  · simp [Value.ownBlock] at hg
    subst hg
    exact row_ne h' hB (Ne.symm hT)
theorem TxAt.touch {T : Nat → Prop} {w w' : World} {base : Nat} {v : Value} {L : List UInt8} (h : TxAt w base v L) (ht : Touch T w w') (hT : ∀ g, v.ownBlock = some g → ¬ T g) : TxAt w' base v L := by
  obtain ⟨ad, cap, rfl, h1, h2, ⟨rfl, h3⟩ | ⟨g, off, cs, rfl, hb, hB, h4, h5⟩⟩ := h
  · exact ⟨none, cap, rfl, h1, h2, Or.inl ⟨rfl, h3⟩⟩
  · exact ⟨_, cap, rfl, h1, h2, Or.inr ⟨g, off, cs, rfl, hb, hB.touch ht (hT g rfl), h4, h5⟩⟩
theorem TxAt.below {w w' : World} {base : Nat} {v : Value} {L : List UInt8} (h : TxAt w base v L) (hb : Below w.heap.size w w') : TxAt w' base v L := h.touch (T := fun _ => False) (Touch.of_below hb) (fun _ _ h => h)
theorem TxAt.grown {w w' : World} {base : Nat} {v : Value} {L : List UInt8} {row : Option Nat} (h : TxAt w base v L) (hg : w.grownBy w' row) (hr : ∀ g, v.ownBlock = some g → row ≠ some g) : TxAt w' base v L := by
  obtain ⟨ad, cap, rfl, h1, h2, ⟨rfl, h3⟩ | ⟨g, off, cs, rfl, hb, hB, h4, h5⟩⟩ := h
  · exact ⟨none, cap, rfl, h1, h2, Or.inl ⟨rfl, h3⟩⟩
  · exact ⟨_, cap, rfl, h1, h2, Or.inr ⟨g, off, cs, rfl, hb, blk_grown hB hg (hr g rfl), h4, h5⟩⟩
/-- what is left behind a cut -/
theorem TxAt.cut {w : World} {base : Nat} {ad : Option Addr} {cap : Nat} {L : List UInt8} (h : TxAt w base (.slice ad L.length cap) L) (n : Nat) (hn : n ≤ L.length) : TxAt w base (.slice (if cap = n then ad else ad.map (·.add n)) (L.length - n) (cap - n)) (L.drop n) := by
  obtain ⟨ad', cap', e, h1, h2, h3⟩ := h
  simp only [Value.slice.injEq, true_and] at e
  obtain ⟨rfl, rfl⟩ := e
  refine ⟨_, _, by rw [List.length_drop], by rw [List.length_drop]; omega, by omega, ?_⟩
  rcases h3 with ⟨rfl, h3⟩ | ⟨g, off, cs, rfl, hb, hB, h4, h5⟩
  · exact Or.inl ⟨by simp, by omega⟩
  · by_cases hc : cap = n
    · rw [if_pos hc]
      refine Or.inr ⟨g, off, cs, rfl, hb, hB, by omega, ?_⟩
      rw [List.length_drop, show L.length - n = 0 by omega, List.take_zero, List.drop_of_length_le (by omega)]; rfl
    · rw [if_neg hc]
      refine Or.inr ⟨g, off + n, cs, by simp [Addr.add], hb, hB, by omega, ?_⟩
      rw [List.length_drop, ← List.drop_drop, ← List.drop_take, h5]
      unfold u8s
      rw [List.map_drop]
/-- the text of its first bytes -/
theorem TxAt.conv {w : World} {base : Nat} {ad : Option Addr} {cap cap' : Nat} {L : List UInt8} (h : TxAt w base (.slice ad L.length cap) L) (n : Nat) (hn : n ≤ L.length) (h0 : 0 < n) : (convert 79 9 (.slice ad n cap')).run Tryz.prog w = .ok (.string (ba (L.take n))) w := by
  obtain ⟨ad', cap1, e, h1, h2, h3⟩ := h
  simp only [Value.slice.injEq, true_and] at e
  obtain ⟨rfl, rfl⟩ := e
  rcases h3 with ⟨rfl, h3⟩ | ⟨g, off, cs, rfl, hb, hB, h4, h5⟩
  · omega
  · have hl : (L.take n).length = n := by rw [List.length_take]; omega
    have := run_convert_bytes_back (P := Tryz.prog) w 79 9 5 ⟨g, off, none⟩ cap' (L.take n) Tryz.underlying79 Tryz.underlying5 Tryz.underlying9 (by
      intro j hj
      rw [show (⟨g, off, none⟩ : Addr).add j = ⟨g, off + j, none⟩ by unfold Addr.add; split <;> simp_all, hB.cell (off + j)]
      have h6 : ((cs.drop off).take L.length)[j]? = (u8s L)[j]? := by rw [h5]
      rw [List.getElem?_take_of_lt (by omega), List.getElem?_drop] at h6
      rw [h6]
      unfold u8s
      rw [List.getElem?_map, List.getElem?_eq_getElem (by omega), List.getElem_take]
      rfl)
    rw [hl] at this
    exact this
theorem append_nothing {P : Program} (w : World) (t tx ty e : TypeId) (i : TypeInfo) (ht : P.underlying t = some (.slice e)) (hi : P.info? e = some i) (base : Option Addr) (sLen sCap : Nat) (hle : sLen ≤ sCap) (x : Value) (hs : Src P i.size tx x 0 [] w) :
    (Builtin.append_ #[t, tx] ty #[.slice base sLen sCap, x]).run P w = .ok (.slice base sLen sCap) w := by
  rcases hs.kind with ⟨e', hk⟩ | hk <;> cases base <;> simp [Builtin.append_, run_underlying ht, run_underlying hk, sizeOf, typeInfo, hi, hs.len, hle, hs.cells, storeCells]
theorem room_off {P : Program} (w : World) (t tx ty e : TypeId) (i : TypeInfo) (ht : P.underlying t = some (.slice e)) (hi : P.info? e = some i) (hs1 : i.size = 1)
    (g off sLen sCap : Nat) (cur : Array Value) (hg : w.heap[g]? = some (.cells cur e (0, 0))) (x : Value) (n : Nat) (news : List Value) (hs : Src P 1 tx x n news w)
    (hroom : sLen + n ≤ sCap) (hfit : off + sLen + news.length ≤ cur.size) :
    (Builtin.append_ #[t, tx] ty #[.slice (some ⟨g, off, none⟩) sLen sCap, x]).run P w =
      .ok (.slice (some ⟨g, off, none⟩) (sLen + n) sCap) (w.setRow g (cur.toList.take (off + sLen) ++ news ++ cur.toList.drop (off + sLen + news.length)).toArray) := by
  have hst := run_storeCells_at P g (off + sLen) e news 0 cur w hg (by simpa using hfit) hs.one
  simp only [Nat.add_zero] at hst
  have hc := hs.cells
  rcases hs.kind with ⟨e', hk⟩ | hk <;> simp [Builtin.append_, run_underlying ht, run_underlying hk, sizeOf, typeInfo, hi, hs1, hs.len, hroom, hc, Addr.add_lit, hst]
/-- the law: n bytes more -/
theorem tx_append (w : World) (base : Nat) (v : Value) (L M : List UInt8) (x : Value) (tx ty : TypeId) (h : TxAt w base v L) (hs : Src Tryz.prog 1 tx x M.length (u8s M) w) (hlen : L.length + M.length ≤ 1099511627776) (hbase : base ≤ w.heap.size) :
    ∃ ad cap w', (Builtin.append_ #[79, tx] ty #[v, x]).run Tryz.prog w = .ok (.slice ad (L.length + M.length) cap) w' ∧ TxAt w' base (.slice ad (L.length + M.length) cap) (L ++ M) ∧ w.grownBy w' v.ownBlock ∧
      ((Value.slice ad (L.length + M.length) cap).ownBlock = v.ownBlock ∨ (Value.slice ad (L.length + M.length) cap).ownBlock = some w.heap.size) := by
  obtain ⟨i0, hi, hz0, hz1, hz2⟩ := info_parts info_u8
  obtain ⟨ad, cap, rfl, h1, h2, h3⟩ := h
  have hll : (L ++ M).length = L.length + M.length := List.length_append
  have grow : cap < L.length + M.length → (Builtin.firstCells 1 L.length (.slice ad L.length cap)).run Tryz.prog w.drew = .ok (u8s L).toArray w.drew →
      ∃ ad' cap' w', (Builtin.append_ #[79, tx] ty #[.slice ad L.length cap, x]).run Tryz.prog w = .ok (.slice ad' (L.length + M.length) cap') w' ∧ TxAt w' base (.slice ad' (L.length + M.length) cap') (L ++ M) ∧ w.grownBy w' (Value.slice ad L.length cap).ownBlock ∧
      ((Value.slice ad' (L.length + M.length) cap').ownBlock = (Value.slice ad L.length cap).ownBlock ∨ (Value.slice ad' (L.length + M.length) cap').ownBlock = some w.heap.size) := by
    intro hg hold
    have hm : L.length + M.length ≤ maxLen := by unfold maxLen; omega
    have hrun := run_append_grow_src (P := Tryz.prog) w 79 tx ty 5 i0 (.int .u8 0) Tryz.underlying79 hi hz0 ad L.length cap (u8s L) (by rw [hz1]; exact hold) x M.length (u8s M) (by rw [hz1]; exact hs) hg (by omega) (growslice_fits hg (by rw [hz2]; omega))
    have hge := grownCap_ge w (L.length + M.length) cap 5
    have hcm := grownCap_le_maxLen w (L.length + M.length) cap 5 hm
    refine ⟨_, _, _, hrun, ⟨_, _, by rw [hll], by rw [hll]; exact hge, hcm, Or.inr ⟨w.heap.size, 0, (u8s L ++ u8s M) ++ (Builtin.zeroCells (Value.int .u8 0).cells (grownCap w (L.length + M.length) cap 5 - (L.length + M.length))).toList, rfl, hbase, ?_, ?_, ?_⟩⟩, ⟨rfl, rfl, rfl, by simp, fun k hk _ => Below.heap_alloc w.drew _ k hk⟩, Or.inr rfl⟩
    · unfold Blk
      have := heap_alloc_new w.drew (.cells ((u8s L ++ u8s M).toArray ++ Builtin.zeroCells (Value.int .u8 0).cells (grownCap w (L.length + M.length) cap 5 - (L.length + M.length))) 5 (0, 0))
      refine this.trans (congrArg (fun z => some (Obj.cells z 5 (0, 0))) ?_)
      apply Array.ext'
      rw [Array.toList_append]
    · have hz : (Builtin.zeroCells (Value.int .u8 0).cells (grownCap w (L.length + M.length) cap 5 - (L.length + M.length))).toList.length = grownCap w (L.length + M.length) cap 5 - (L.length + M.length) := by
        rw [Array.length_toList, size_zeroCells]
        exact Nat.mul_one _
      rw [List.length_append, List.length_append, u8s_length, u8s_length, hz]
      omega
    · have hul : (u8s L ++ u8s M).length = (L ++ M).length := by rw [List.length_append, u8s_length, u8s_length, hll]
      rw [List.drop_zero, ← hul, List.take_left]
      unfold u8s
      rw [List.map_append]
  rcases h3 with ⟨rfl, rfl⟩ | ⟨g, off, cs, rfl, hb, hB, h4, h5⟩
  · have hL : L = [] := List.eq_nil_of_length_eq_zero (by omega)
    subst hL
    by_cases hM : M = []
    · subst hM
      exact ⟨none, 0, w, append_nothing (P := Tryz.prog) w 79 tx ty 5 i0 Tryz.underlying79 hi none 0 0 (Nat.le_refl _) x (by rw [hz1]; exact hs), TxAt.nil _ _, ⟨rfl, rfl, rfl, Nat.le_refl _, fun _ _ _ => rfl⟩, Or.inl rfl⟩
    · exact grow (by have := List.length_pos_iff.2 hM; simp; omega) (run_firstCells_none w.drew 1 0 0 0)
  · by_cases hroom : L.length + M.length ≤ cap
    · have hrun := room_off (P := Tryz.prog) w 79 tx ty 5 i0 Tryz.underlying79 hi hz1 g off L.length cap cs.toArray hB x M.length (u8s M) hs hroom (by rw [u8s_length]; simp; omega)
      refine ⟨_, _, _, hrun, ⟨_, _, by rw [hll], by rw [hll]; exact hroom, h2, Or.inr ⟨g, off, cs.take (off + L.length) ++ u8s M ++ cs.drop (off + L.length + M.length), rfl, hb, ?_, ?_, ?_⟩⟩, ⟨rfl, rfl, rfl, by simp, fun k _ hk => setRow_other w g k _ (fun e => hk (by simp [Value.ownBlock, e]))⟩, Or.inl rfl⟩
      · unfold Blk
        rw [setRow_heap w g _ _ _ _ hB, u8s_length]
      · simp only [List.length_append, List.length_take, List.length_drop, u8s_length]
        omega
      · rw [hll, List.append_assoc, List.drop_append_of_le_length (by rw [List.length_take]; omega), List.drop_take, show off + L.length - off = L.length by omega, h5, ← List.append_assoc, show L.length + M.length = (u8s L ++ u8s M).length by rw [List.length_append, u8s_length, u8s_length], List.take_left]
        unfold u8s
        rw [List.map_append]
    · refine grow (by omega) (run_firstCells_some w.drew 1 L.length ⟨g, off, none⟩ L.length cap (u8s L) (by rw [u8s_length, Nat.mul_one]) ?_)
      intro j u hu
      rw [show (⟨g, off, none⟩ : Addr).add j = ⟨g, off + j, none⟩ by unfold Addr.add; split <;> simp_all]
      show w.cell? ⟨g, off + j, none⟩ = some u
      have hj : j < L.length := by
        have := (List.getElem?_eq_some_iff.1 hu).1
        rw [u8s_length] at this
        exact this
      rw [hB.cell (off + j)]
      rw [← h5, List.getElem?_take_of_lt hj, List.getElem?_drop] at hu
      exact hu
theorem wp_append_tx {o : Oper} {a : Act} {w : World} {K : Act → World → Prop} {Q : Exit → Act → World → Prop} (s x : Operand) (tx : TypeId)
    (ho : o.op = .call { callee := .builtin .append, args := #[s, x], argTypes := #[79, tx] })
    (base : Nat) (v : Value) (L M : List UInt8) (hs : a.eval s = v) (h : TxAt w base v L) (hx : Src Tryz.prog 1 tx (a.eval x) M.length (u8s M) w) (hlen : L.length + M.length ≤ 1099511627776) (hbase : base ≤ w.heap.size)
    (hk : ∀ ad cap w', TxAt w' base (.slice ad (L.length + M.length) cap) (L ++ M) → w.grownBy w' v.ownBlock → ((Value.slice ad (L.length + M.length) cap).ownBlock = v.ownBlock ∨ (Value.slice ad (L.length + M.length) cap).ownBlock = some w.heap.size) → K (a.put o.dst (.slice ad (L.length + M.length) cap)) w') : o.wp Tryz.prog a w K Q := by
  obtain ⟨ad, cap, w', hr, h2, h3, h4⟩ := tx_append w base v L M (a.eval x) tx o.type h hx hlen hbase
  unfold Oper.wp execOp
  simp only [ho, resolve, invoke, builtin, Sem.run_bind, Sem.run_pure, Result.andThen_ok, List.map_toArray, List.map_cons, List.map_nil, hs, hr]
  exact hk ad cap w' h2 h3 h4
theorem wpList_append_tx {ops : Array Oper} {rest : List Oper} {o : Oper} {a : Act} {w : World} {Q : Exit → Act → World → Prop} (hgd : o.guard = none) (s x : Operand) (tx : TypeId)
    (ho : o.op = .call { callee := .builtin .append, args := #[s, x], argTypes := #[79, tx] })
    (base : Nat) (v : Value) (L M : List UInt8) (hs : a.eval s = v) (h : TxAt w base v L) (hx : Src Tryz.prog 1 tx (a.eval x) M.length (u8s M) w) (hlen : L.length + M.length ≤ 1099511627776) (hbase : base ≤ w.heap.size)
    (hk : ∀ ad cap w', TxAt w' base (.slice ad (L.length + M.length) cap) (L ++ M) → w.grownBy w' v.ownBlock → ((Value.slice ad (L.length + M.length) cap).ownBlock = v.ownBlock ∨ (Value.slice ad (L.length + M.length) cap).ownBlock = some w.heap.size) → wpList Tryz.prog ops Q rest (a.put o.dst (.slice ad (L.length + M.length) cap)) w') : wpList Tryz.prog ops Q (o :: rest) a w :=
  wpList_plain hgd fun _ hK => wp_append_tx s x tx ho base v L M hs h hx hlen hbase fun ad cap w' h2 h3 h4 => hK _ _ (hk ad cap w' h2 h3 h4)
theorem step_append_tx {ops : Array Oper} {o : Oper} {a : Act} {w : World} {K : Act → World → Prop} {Q : Exit → Act → World → Prop} {E : Prop} (hgd : o.guard = none) (s x : Operand) (tx : TypeId)
    (ho : o.op = .call { callee := .builtin .append, args := #[s, x], argTypes := #[79, tx] })
    (base : Nat) (v : Value) (L M : List UInt8) (hs : a.eval s = v) (h : TxAt w base v L) (hx : Src Tryz.prog 1 tx (a.eval x) M.length (u8s M) w) (hlen : L.length + M.length ≤ 1099511627776) (hbase : base ≤ w.heap.size)
    (hk : ∀ ad cap w', TxAt w' base (.slice ad (L.length + M.length) cap) (L ++ M) → w.grownBy w' v.ownBlock → ((Value.slice ad (L.length + M.length) cap).ownBlock = v.ownBlock ∨ (Value.slice ad (L.length + M.length) cap).ownBlock = some w.heap.size) → K (a.put o.dst (.slice ad (L.length + M.length) cap)) w') :
    if Region.wanted o (yielded ops a.tmps) = true then Oper.wp Tryz.prog o a w K Q else E := by
  have hw : Region.wanted o (yielded ops a.tmps) = true := by simp [Region.wanted, hgd]
  rw [if_pos hw]
  exact wp_append_tx s x tx ho base v L M hs h hx hlen hbase hk
end Go.Proofs.YtogobhpnlndcaaaGreat
