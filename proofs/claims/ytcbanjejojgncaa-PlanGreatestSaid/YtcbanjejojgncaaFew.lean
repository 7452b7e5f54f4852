/- The walks of the law's few and entries. No condition. -/
import Derived.Test.YtcbanjejojgncaaMerge
namespace Go.Proofs.Ytcbanjejojgncaa
open Go.RowKit

theorem info_promise : (Try.prog.info? 44).map (fun i => (i.zero, i.size, i.bytes)) = some (some (.agg #[.int .i64 0, .int .i64 0, .slice none 0 0]), 3, 40) := by kernel_rfl

/-- the cells of a row of promises -/
def PRow (w : World) : List Prom → List Value → Prop
  | [], cs => cs = []
  | q :: qs, cs => ∃ la lc rest, cs = .int .i64 q.floor :: .int .i64 q.top :: .slice la q.list.length lc :: rest ∧ EntsAt w la q.list ∧ PRow w qs rest
theorem PRow_len {w : World} {qs : List Prom} {cs : List Value} (h : PRow w qs cs) : cs.length = qs.length * 3 := by
  induction qs generalizing cs with
  | nil => simp [PRow] at h; simp [h]
  | cons q qs ih => obtain ⟨la, lc, rest, rfl, _, hr⟩ := h; simp [ih hr]; omega
theorem PRow_snoc {w : World} {qs : List Prom} {cs : List Value} (h : PRow w qs cs) {q : Prom} {la : Option Addr} {lc : Nat} (he : EntsAt w la q.list) : PRow w (qs ++ [q]) (cs ++ [.int .i64 q.floor, .int .i64 q.top, .slice la q.list.length lc]) := by
  induction qs generalizing cs with
  | nil => simp [PRow] at h; subst h; exact ⟨la, lc, [], rfl, he, rfl⟩
  | cons p qs ih => obtain ⟨la', lc', rest, rfl, h1, hr⟩ := h; exact ⟨la', lc', _, rfl, h1, ih hr⟩
theorem PRow_at {w : World} {qs : List Prom} {cs : List Value} (h : PRow w qs cs) (k : Nat) (hk : k < qs.length) :
    ∃ la lc, cs[k * 3]? = some (.int .i64 qs[k].floor) ∧ cs[k * 3 + 1]? = some (.int .i64 qs[k].top) ∧ cs[k * 3 + 2]? = some (.slice la qs[k].list.length lc) ∧ EntsAt w la qs[k].list := by
  induction qs generalizing cs k with
  | nil => simp at hk
  | cons q qs ih =>
    obtain ⟨la, lc, rest, rfl, h1, hr⟩ := h
    cases k with
    | zero => exact ⟨la, lc, rfl, rfl, rfl, h1⟩
    | succ k =>
      obtain ⟨la', lc', a, b, c, d⟩ := ih hr k (by simpa using hk)
      refine ⟨la', lc', ?_, ?_, ?_, d⟩
      · rw [show (k + 1) * 3 = k * 3 + 3 by omega]; exact a
      · rw [show (k + 1) * 3 + 1 = k * 3 + 1 + 3 by omega]; exact b
      · rw [show (k + 1) * 3 + 2 = k * 3 + 2 + 3 by omega]; exact c
theorem PRow_below {w w' : World} {qs : List Prom} {cs : List Value} (h : PRow w qs cs) (hb : Below w.heap.size w w') : PRow w' qs cs := by
  induction qs generalizing cs with
  | nil => exact h
  | cons q qs ih => obtain ⟨la, lc, rest, rfl, h1, hr⟩ := h; exact ⟨la, lc, rest, rfl, entsAt_below h1 hb, ih hr⟩
theorem promsAt_own {w w' : World} {base : Nat} {e : TypeId} {v : Value} {qs : List Prom} {cs : List Value} (h : w'.ownsRow base e 3 v qs.length cs) (hr : PRow w qs cs) (hb : Below w.heap.size w w') :
    ∃ ad cap, v = .slice ad qs.length cap ∧ PromsAt w' ad qs := by
  have h0 := h
  obtain ⟨h1, h2⟩ := h
  rcases h2 with ⟨rfl, h2⟩ | ⟨g, cap, cur, rfl, hg, hbb, hn, hc, hs, ht⟩
  · have hl : qs = [] := List.length_eq_zero_iff.1 h2
    subst hl
    exact ⟨none, 0, rfl, Or.inl rfl⟩
  · refine ⟨_, cap, rfl, Or.inr ⟨g, 0, rfl, (h0.lt g rfl).2, fun k hk => ?_⟩⟩
    obtain ⟨la, lc, a, b, c, d⟩ := PRow_at hr k hk
    refine ⟨la, lc, ?_, ?_, ?_, entsAt_below d hb⟩
    · rw [Nat.zero_add, h0.cellAt (k * 3) (by omega)]; exact a
    · rw [Nat.zero_add, h0.cellAt (k * 3 + 1) (by omega)]; exact b
    · rw [Nat.zero_add, h0.cellAt (k * 3 + 2) (by omega)]; exact c

/-- what the row's frame tells of promises that came in -/
def PromsArg (w : World) (ad : Option Addr) (l : List Prom) : Prop :=
  l = [] ∨ ∃ b off, ad = some ⟨b, off, none⟩ ∧ b < w.heap.size ∧ ∀ k (hk : k < l.length), ∃ la lc, w.cell? ⟨b, off + k * 3, none⟩ = some (.int .i64 l[k].floor) ∧ w.cell? ⟨b, off + k * 3 + 1, none⟩ = some (.int .i64 l[k].top) ∧ w.cell? ⟨b, off + k * 3 + 2, none⟩ = some (.slice la l[k].list.length lc) ∧ EntsAt w la l[k].list ∧ l[k].list.length ≤ lc ∧ lc ≤ maxLen
def few1 (p : Prom) : Prom := ⟨p.floor, p.top, p.list.take 70⟩
def fewOf (l : List Prom) : List Prom := (l.take 9).map few1
theorem fewOf_snoc (l : List Prom) (k : Nat) (hk : k < l.length) : (l.take (k + 1)).map few1 = (l.take k).map few1 ++ [few1 l[k]] := by
  rw [List.take_succ_eq_append_getElem hk, List.map_append]; rfl
theorem entsAt_take {w : World} {ad : Option Addr} {l : List Ent} (h : EntsAt w ad l) (n : Nat) : EntsAt w ad (l.take n) := by
  rcases h with h | ⟨b, off, h1, h2, h3⟩
  · left; rw [h]; simp
  · refine Or.inr ⟨b, off, h1, h2, fun k hk => ?_⟩
    rw [List.getElem_take]
    exact h3 k (by rw [List.length_take] at hk; omega)

set_option maxRecDepth 100000 in
set_option maxHeartbeats 2000000 in
theorem few_any (ad : Option Addr) (cap : Nat) (ps : List Prom) (w : World) (hl : ps.length ≤ maxLen) (h : PromsArg w ad ps) :
    Calls Try.prog 22 #[.slice ad ps.length cap] w fun e w' => ∃ ad' cap', e = .returned (.slice ad' (fewOf ps).length cap') ∧ PromsAt w' ad' (fewOf ps) ∧ Below w.heap.size w w' := by
  unfold maxLen at hl
  have H := Lib.hid h
  clear h
  go_enter Try.func22, Try.ntmps22
  go_wp2
  go_loopw [3, 4] (fun v i wr => ∃ (k : Nat) (cs : List Value), i = .int .i64 k ∧ k ≤ ps.length ∧ k ≤ 9 ∧ Hid (wr.ownsRow w.heap.size 44 3 v k cs) ∧ Hid (PRow w ((ps.take k).map few1) cs) ∧ Below w.heap.size w wr) (fun _ i _ => 9 - (intOf i).toNat)
  case atStart => exact ⟨0, [], rfl, Nat.zero_le _, Nat.zero_le _, Lib.hid (World.ownsRow_nil _ _ _ _), Lib.hid rfl, Below.refl _ _⟩
  case round =>
    obtain ⟨k, cs, rfl, hk, hk9, hown, hrow, hbr⟩ := hrel
    by_cases hlt : k < ps.length ∧ k < 9
    · obtain ⟨hlt1, hlt2⟩ := hlt
      obtain ⟨b, off, rfl, hbs, hc⟩ := H.out.resolve_left (by intro h; rw [h] at hlt1; simp at hlt1)
      obtain ⟨la, lc, c0, c1, c2, hes, hlc1, hlc2⟩ := hc k hlt1
      replace c0 := (hbr.cell (p := ⟨b, off + k * 3, none⟩) hbs).trans c0
      replace c1 := (hbr.cell (p := ⟨b, off + k * 3 + 1, none⟩) hbs).trans c1
      replace c2 := (hbr.cell (p := ⟨b, off + k * 3 + 2, none⟩) hbs).trans c2
      have hsn := fewOf_snoc ps k hlt1
      obtain ⟨p, hp⟩ : ∃ p, p = ps[k] := ⟨_, rfl⟩
      rw [← hp] at c0 c1 c2 hes hsn hlc1
      have Hes := Lib.hid hes
      have Hsn := Lib.hid hsn
      unfold maxLen at hlc2
      clear hp hes hsn hc
      by_cases h70 : 70 < p.list.length
      · have hrow2 := PRow_snoc hrow.out (q := few1 p) (la := la) (lc := lc) (entsAt_take Hes.out 70)
        have hfl : (few1 p).list.length = 70 := by unfold few1; rw [List.length_take]; omega
        rw [← Hsn.out, hfl] at hrow2
        have Hrow2 := Lib.hid hrow2
        have hb2 := hbr.alloc hbr.size (.cells #[.int .i64 p.floor, .int .i64 p.top, .slice la 70 lc] 44)
        have hown2 := hown.out.alloc (.cells #[.int .i64 p.floor, .int .i64 p.top, .slice la 70 lc] 44)
        clear hrow2 hfl
        go_wp2_with (at_builtin; refine append_at rfl _ _ 40 rfl w.heap.size 44 3 40 Try.underlying40 _ info_promise rfl (by decide) _ _ _ rfl hown2 _ (by simp) [.int .i64 p.floor, .int .i64 p.top, .slice la 70 lc] rfl rfl (by simp [Value.oneCell']) ?c1 ?c2 ?c3 ?_)
        case c1 => unfold maxLen; omega
        case c2 => omega
        case c3 => exact hb2.size
        intro v' w3 hown3 hb3
        have Hown3 := Lib.hid hown3
        clear hown3 hown2
        go_wp2
        go_roundw
        case rel => exact ⟨k + 1, _, by go_num, by omega, by omega, Hown3, Hrow2, hb2.trans hb3⟩
        case measure => simp [intOf]; omega
      · have hrow2 := PRow_snoc hrow.out (q := few1 p) (la := la) (lc := lc) (entsAt_take Hes.out 70)
        have hfl : (few1 p).list.length = p.list.length := by unfold few1; rw [List.length_take]; omega
        rw [← Hsn.out, hfl] at hrow2
        have Hrow2 := Lib.hid hrow2
        have hb2 := hbr.alloc hbr.size (.cells #[.int .i64 p.floor, .int .i64 p.top, .slice la p.list.length lc] 44)
        have hown2 := hown.out.alloc (.cells #[.int .i64 p.floor, .int .i64 p.top, .slice la p.list.length lc] 44)
        clear hrow2 hfl
        go_wp2_with (at_builtin; refine append_at rfl _ _ 40 rfl w.heap.size 44 3 40 Try.underlying40 _ info_promise rfl (by decide) _ _ _ rfl hown2 _ (by simp) [.int .i64 p.floor, .int .i64 p.top, .slice la p.list.length lc] rfl rfl (by simp [Value.oneCell']) ?c1 ?c2 ?c3 ?_)
        case c1 => unfold maxLen; omega
        case c2 => omega
        case c3 => exact hb2.size
        intro v' w3 hown3 hb3
        have Hown3 := Lib.hid hown3
        clear hown3 hown2
        go_wp2
        go_roundw
        case rel => exact ⟨k + 1, _, by go_num, by omega, by omega, Hown3, Hrow2, hb2.trans hb3⟩
        case measure => simp [intOf]; omega
    · have hfe : (ps.take k).map few1 = fewOf ps := by
        unfold fewOf
        by_cases hx : k = 9
        · rw [hx]
        · rw [List.take_of_length_le (show ps.length ≤ k by omega), List.take_of_length_le (show ps.length ≤ 9 by omega)]
      have hfl : (fewOf ps).length = k := by unfold fewOf; rw [List.length_map, List.length_take]; omega
      have hrow2 := hrow.out
      have hown2 := hown.out
      rw [hfe] at hrow2
      rw [← hfl] at hown2
      obtain ⟨ad', cap', rfl, hpr⟩ := promsAt_own hown2 hrow2 hbr
      have Hpr := Lib.hid hpr
      have hcase : k < ps.length ∧ 9 ≤ k ∨ ps.length ≤ k := by omega
      clear hfe hfl hrow2 hown2 hpr hlt
      rcases hcase with ⟨hx1, hx2⟩ | hx1
      all_goals
        go_wp2
        go_ret
        exact ⟨_, _, rfl, Hpr.out, hbr⟩

def ReadsEnts (w : World) (v : Value) (l : List Ent) : Prop := ∃ ad cap, v = .slice ad l.length cap ∧ EntsAt w ad l
theorem entsVals_at (l : List Ent) (k : Nat) (hk : k < l.length) : (entsVals l)[k * 3]? = some (.int .i64 l[k].gen) ∧ (entsVals l)[k * 3 + 1]? = some (.int .i64 l[k].bal) ∧ (entsVals l)[k * 3 + 2]? = some (.string l[k].mark) := by
  induction l generalizing k with
  | nil => simp at hk
  | cons x l ih =>
    have e : entsVals (x :: l) = .int .i64 x.gen :: .int .i64 x.bal :: .string x.mark :: entsVals l := rfl
    rw [e]
    cases k with
    | zero => exact ⟨rfl, rfl, rfl⟩
    | succ k =>
      obtain ⟨a, b, c⟩ := ih k (by simpa using hk)
      refine ⟨?_, ?_, ?_⟩
      · rw [show (k + 1) * 3 = k * 3 + 3 by omega]; exact a
      · rw [show (k + 1) * 3 + 1 = k * 3 + 1 + 3 by omega]; exact b
      · rw [show (k + 1) * 3 + 2 = k * 3 + 2 + 3 by omega]; exact c
theorem readsEnts_own {w : World} {base : Nat} {e : TypeId} {v : Value} {l : List Ent} (h : w.ownsRow base e 3 v l.length (entsVals l)) : ReadsEnts w v l := by
  have h0 := h
  obtain ⟨h1, h2⟩ := h
  rcases h2 with ⟨rfl, h2⟩ | ⟨g, cap, cur, rfl, hg, hbb, hn, hc, hs, ht⟩
  · have hl : l = [] := List.length_eq_zero_iff.1 h2
    subst hl
    exact ⟨none, 0, rfl, Or.inl rfl⟩
  · refine ⟨_, cap, rfl, Or.inr ⟨g, 0, rfl, (h0.lt g rfl).2, fun k hk => ?_⟩⟩
    have hp := entsVals_at l k hk
    rw [Nat.zero_add, h0.cellAt (k * 3) (by omega), h0.cellAt (k * 3 + 1) (by omega), h0.cellAt (k * 3 + 2) (by omega)]
    exact hp
theorem readsEnts_below {w w' : World} {v : Value} {l : List Ent} (h : ReadsEnts w v l) (hb : Below w.heap.size w w') : ReadsEnts w' v l :=
  let ⟨ad, cap, h1, h2⟩ := h; ⟨ad, cap, h1, entsAt_below h2 hb⟩

set_option maxHeartbeats 1000000 in
theorem entries_any (v1 v2 : Value) (l : List Ent) (w : World) (h1 : ReadsEnts w v1 l) (h2 : ReadsEnts w v2 l) (hl1 : l.length ≤ 1099511627776) :
    Calls Try.prog 25 #[v1, v2] w fun e w' => e = .returned (.bool true) ∧ ∃ n, w' = w.drewN n := by
  obtain ⟨a1, c1, rfl, h1⟩ := h1
  obtain ⟨a2, c2, rfl, h2⟩ := h2
  have H1 := Lib.hid h1
  have H2 := Lib.hid h2
  clear h1 h2
  go_enter Try.func25, Try.ntmps25
  go_wp2
  go_loopw [5] (fun i wr => ∃ k : Nat, k ≤ l.length ∧ i = .int .i64 k ∧ (∃ n, wr = w.drewN n)) (fun i _ => l.length - (intOf i).toNat)
  case atStart => exact ⟨0, by omega, rfl, 0, rfl⟩
  case round =>
    obtain ⟨k, hk, rfl, nd, rfl⟩ := hrel
    by_cases hlt : k < l.length
    · obtain ⟨b1, o1, rfl, hb1, x0, x1, x2⟩ := entsAt_get H1.out k hlt
      obtain ⟨b2, o2, rfl, hb2, y0, y1, y2⟩ := entsAt_get H2.out k hlt
      have hi1 : (k : Int) < (l.length : Int) := by omega
      go_wp2
      go_quiet (fail)
      go_wp2
      go_roundw
      case rel => exact ⟨k + 1, by omega, by go_num, _, rfl⟩
      case measure => simp [intOf]; omega
    · go_wp2
      go_ret
      exact ⟨rfl, _, rfl⟩
end Go.Proofs.Ytcbanjejojgncaa
