/- The walk of PlanGreatest: what is proposed again has the greatest ballot. No condition. -/
import Derived.Test.YtcbanjejojgncaaPlanMerges
namespace Go.Proofs.Ytcbanjejojgncaa
open Go.RowKit

theorem great_spec (g : Int) (l : List (Int × Ent)) : ∀ (st : Option Ent) (x : Ent), (∀ s, st = some s → s.gen = g) → greatFrom g st l = some x →
    x.gen = g ∧ (st = some x ∨ ∃ t, (t, x) ∈ l) ∧ (∀ s, st = some s → s.bal ≤ x.bal) ∧ (∀ t y, (t, y) ∈ l → y.gen = g → y.bal ≤ x.bal) := by
  induction l with
  | nil => intro st x hst h; have h' : st = some x := h; subst h'; exact ⟨hst x rfl, Or.inl rfl, fun s hs => by cases hs; exact Int.le_refl _, fun t y hy => by cases hy⟩
  | cons a l ih =>
    intro st x hst h
    obtain ⟨t0, a⟩ := a
    rw [greatFrom_cons] at h
    have hp : ∀ s, pick g st a = some s → s.gen = g := by
      intro s hs
      unfold pick at hs
      split at hs
      · next hc => cases hs; exact hc.1
      · exact hst s hs
    obtain ⟨h1, h2, h3, h4⟩ := ih _ x hp h
    refine ⟨h1, ?_, ?_, ?_⟩
    · rcases h2 with h2 | ⟨t, ht⟩
      · unfold pick at h2
        split at h2
        · cases h2; exact Or.inr ⟨t0, List.mem_cons_self⟩
        · exact Or.inl h2
      · exact Or.inr ⟨t, List.mem_cons_of_mem _ ht⟩
    · intro s hs
      subst hs
      by_cases hc : a.gen = g ∧ better (some s) a = true
      · have := h3 a (by unfold pick; rw [if_pos hc])
        have hb : s.bal < a.bal := by simpa [better] using hc.2
        omega
      · exact h3 s (by unfold pick; rw [if_neg hc])
    · intro t y hy hg
      rcases List.mem_cons.1 hy with hy | hy
      · cases hy
        by_cases hc : better st a = true
        · exact h3 a (by unfold pick; rw [if_pos ⟨hg, hc⟩])
        · cases hst2 : st with
          | none => subst hst2; exact absurd rfl hc
          | some s =>
            subst hst2
            have := h3 s (by unfold pick; rw [if_neg (fun h => hc h.2)])
            have hb : ¬ s.bal < a.bal := by simpa [better] using hc
            omega
      · exact h4 t y hy hg
theorem again_spec (ps : List Prom) : ∀ (n : Nat) (g : Int) (i : Nat) (hi : i < (againFrom ps n g).length),
    greatOf ps (g + (i : Int)) = some (againFrom ps n g)[i] := by
  intro n
  induction n with
  | zero => intro g i hi; exact absurd hi (by simp [againFrom])
  | succ n ih =>
    intro g i hi
    cases hg : greatOf ps g with
    | none =>
      have : againFrom ps (n + 1) g = [] := by rw [againFrom, hg]
      rw [this] at hi; simp at hi
    | some x =>
      have he : againFrom ps (n + 1) g = x :: againFrom ps n (g + 1) := by rw [againFrom, hg]
      cases i with
      | zero => simp [he]; exact hg
      | succ i =>
        have := ih (g + 1) i (by rw [he] at hi; simpa using hi)
        simp only [he, List.getElem_cons_succ]
        rw [← this]
        congr 1
        omega
theorem again_at (ps : List Prom) (i : Nat) (hi : i < (againOf ps).length) :
    (againOf ps)[i].gen = topOf ps + (i : Int) ∧ (∃ t, (t, (againOf ps)[i]) ∈ flat ps) ∧ ∀ t y, (t, y) ∈ flat ps → y.gen = (againOf ps)[i].gen → y.bal ≤ (againOf ps)[i].bal := by
  have h := again_spec ps 16 (topOf ps) i hi
  obtain ⟨h1, h2, _, h4⟩ := great_spec _ _ none _ (fun s hs => by cases hs) h
  refine ⟨h1, ?_, fun t y hy hg => h4 t y hy (by rw [hg]; exact h1)⟩
  rcases h2 with h2 | h2
  · cases h2
  · exact h2

theorem run_eql_ent (x y : Ent) (W : World) : (binOp .eql 50 (.agg #[.int .i64 x.gen, .int .i64 x.bal, .string x.mark]) (.agg #[.int .i64 y.gen, .int .i64 y.bal, .string y.mark])).run Try.prog W = .ok (.bool (x.gen == y.gen && x.bal == y.bal && x.mark.toList == y.mark.toList)) W := by
  cases h1 : x.gen == y.gen <;> cases h2 : x.bal == y.bal <;> cases h3 : x.mark.toList == y.mark.toList <;> simp only [Bool.and_true, Bool.and_false, Bool.true_and, Bool.false_and]
  all_goals go_simp

set_option maxRecDepth 100000 in
set_option maxHeartbeats 4000000 in
theorem planGreatest_walk (ad : Option Addr) (cap : Nat) (ps : List Prom) (w : World) (hl : ps.length ≤ maxLen) (h : PromsArg w ad ps) :
    Calls Try.prog 11 #[.slice ad ps.length cap] w fun e w' => e = .returned (.bool true) ∧ Below w.heap.size w w' := by
  have H := Lib.hid h
  have Hl := Lib.hid hl
  clear h hl
  go_enter Try.func11, Try.ntmps11
  go_wp2_with fail
  refine (few_any ad cap ps w Hl.out H.out).mono ?_
  rintro e w1 ⟨ad1, cap1, rfl, hp1, hb1⟩
  have hqs := fewOf_len ps
  have hql := Lib.hid (fewOf_list ps)
  generalize fewOf ps = qs at hp1 hqs hql ⊢
  have Hp1 := Lib.hid hp1
  clear hp1 H Hl
  go_wp2
  go_loop [3] (fun i => ∃ k : Nat, i = .int .i64 k ∧ k ≤ qs.length ∧ Hid (∀ j (hj : j < qs.length), j < k → qs[j].top ≤ 1152921504606846976)) (fun i => qs.length - (intOf i).toNat)
  case atStart => exact ⟨0, rfl, Nat.zero_le _, Lib.hid (fun j _ h => absurd h (by omega))⟩
  case round =>
    obtain ⟨i, rfl, hi, hall⟩ := hrel
    by_cases hlt : i < qs.length
    · obtain ⟨bl, off, la, lc, rfl, hbs, c0, c1, _, _⟩ := promsAt_get Hp1.out i hlt
      have hn : qs[i].top ≤ 1152921504606846976 → Hid (∀ j (hj : j < qs.length), j < i + 1 → qs[j].top ≤ 1152921504606846976) := fun h => Lib.hid (fun j hj hji => by
        by_cases e : j = i
        · subst e; exact h
        · exact hall.out j hj (by omega))
      generalize qs[i].top = t at c1 hn
      have Hn := Lib.hid hn
      clear hn c0
      by_cases htt : 1152921504606846976 < t
      · go_wp2_with (go_at_call 12; refine (awake_any _).mono ?_; rintro e w' ⟨rfl, hb⟩)
        go_ret
        exact ⟨rfl, below_step hb1 hb⟩
      · go_wp2
        go_round
        case rel => exact ⟨i + 1, by go_num, by omega, Hn.out (by omega)⟩
        case measure => simp [intOf]; omega
    · have htop0 : ∀ p ∈ qs, p.top ≤ 1152921504606846976 := by
        intro p hp
        obtain ⟨j, hj, rfl⟩ := List.mem_iff_getElem.1 hp
        exact hall.out j hj (by omega)
      have htop := Lib.hid (show ∀ p ∈ qs, p.top ≤ 2305843009213693952 from fun p hp => Int.le_trans (htop0 p hp) (by omega))
      have htb : topOf qs ≤ 1152921504606846976 := topFrom_le (by omega) htop0
      have htg : 0 ≤ topOf qs := topFrom_ge 0 qs
      have hln := Lib.hid (show ∀ p ∈ qs, p.list.length ≤ 1000000 from fun p hp => Nat.le_trans (hql.out p hp) (by omega))
      have hc2 : (againOf qs).length ≤ 16 := againFrom_le qs 16 (topOf qs)
      have Hag := Lib.hid (again_at qs)
      clear htop0 hall
      go_wp2_with fail
      refine (merge_any ad1 cap1 qs _ (by omega) hln.out htop.out Hp1.out).mono ?_
      rintro e w2 ⟨v1, v2, rfl, hv1, hv2, hb2⟩
      have Hp2 := Lib.hid (promsAt_below Hp1.out hb2)
      have R2 := readsEnts_own hv2
      have hb02 := below_step hb1 hb2
      generalize floorOf qs = F
      generalize topOf qs = T at htb htg Hag ⊢
      generalize againOf qs = A at hc2 R2 Hag ⊢
      obtain ⟨ad2, cap2, rfl, hat2⟩ := R2
      have Hat2 := Lib.hid hat2
      clear hv1 hv2 hat2 Hp1 htop hb1 hb2
      go_wp2_with fail
      go_loopw [8] (fun i wr => ∃ k : Nat, i = .int .i64 k ∧ k ≤ A.length ∧ Below w2.heap.size w2 wr) (fun i _ => A.length - (intOf i).toNat)
      case atStart => exact ⟨0, rfl, Nat.zero_le _, Below.refl _ _⟩
      case round =>
        obtain ⟨k, rfl, hk, hbr⟩ := hrel
        by_cases hlt2 : k < A.length
        · obtain ⟨ba, oa, rfl, hba, x0, x1, x2⟩ := entsAt_get Hat2.out k hlt2
          obtain ⟨hg, hin, hmax⟩ := Hag.out k hlt2
          obtain ⟨y, hy⟩ : ∃ y, y = A[k] := ⟨_, rfl⟩
          rw [← hy] at x0 x1 x2 hg hin hmax
          have X0 := Lib.hid x0
          have X1 := Lib.hid x1
          have X2 := Lib.hid x2
          replace x0 := (hbr.cell (p := ⟨ba, oa + k * 3, none⟩) hba).trans x0
          rw [hg] at x0
          have Hg := Lib.hid hg
          have Hin := Lib.hid hin
          have Hmax := Lib.hid hmax
          clear hy hg hin hmax x1 x2
          obtain ⟨w3, rfl⟩ : ∃ w3 : World, w3 = wr := ⟨_, rfl⟩
          go_wp2
          go_loopw [9, 10] (fun z i wr => ∃ (i' : Nat) (b : Bool), i = .int .i64 i' ∧ i' ≤ qs.length ∧ z = .bool b ∧ Hid (b = true ∨ ∃ t, (t, y) ∈ flat (qs.drop i')) ∧ Below w2.heap.size w2 wr) (fun _ i _ => qs.length - (intOf i).toNat)
          case atStart => exact ⟨0, false, rfl, Nat.zero_le _, rfl, Lib.hid (Or.inr Hin.out), hbr⟩
          case round =>
            obtain ⟨j, b, rfl, hj, rfl, hbr3, hbr2⟩ := hrel
            by_cases hlt3 : j < qs.length
            · obtain ⟨bl, off, la, lc, rfl, hbs, _, _, c2, hes⟩ := promsAt_get Hp2.out j hlt3
              have hin3 : qs[j].list.length ≤ 1000000 := hln.out _ (List.getElem_mem hlt3)
              have hsub : Hid (∀ q (hq : q < qs[j].list.length), ∃ t, (t, qs[j].list[q]) ∈ flat qs) := Lib.hid (fun q hq => ⟨qs[j].top, List.mem_flatMap.2 ⟨qs[j], List.getElem_mem hlt3, List.mem_map.2 ⟨_, List.getElem_mem hq, rfl⟩⟩⟩)
              have hr0 := hbr3.out
              rw [rest_zero qs j hlt3] at hr0
              obtain ⟨p, hp⟩ : ∃ p, p = qs[j] := ⟨_, rfl⟩
              rw [← hp] at c2 hes hin3 hsub hr0
              have Hr0 := Lib.hid hr0
              have Hes := Lib.hid hes
              have C2 := Lib.hid c2
              clear hp hes hr0 hbr3 c2
              obtain ⟨w4, rfl⟩ : ∃ w4 : World, w4 = wr := ⟨_, rfl⟩
              go_wp2
              go_loopw [9, 11] (fun z i wr => ∃ (q : Nat) (b : Bool), i = .int .i64 q ∧ q ≤ p.list.length ∧ z = .bool b ∧ Hid (b = true ∨ ∃ t, (t, y) ∈ restOf p q (flat (qs.drop (j + 1)))) ∧ Below w2.heap.size w2 wr) (fun _ i _ => p.list.length - (intOf i).toNat)
              case atStart => exact ⟨0, b, rfl, Nat.zero_le _, rfl, Hr0, hbr2⟩
              case round =>
                obtain ⟨q, b, rfl, hq, rfl, hbq, hbw⟩ := hrel
                have c2 := (hbw.cell (p := ⟨bl, off + j * 3 + 2, none⟩) hbs).trans C2.out
                by_cases hlt4 : q < p.list.length
                · obtain ⟨b2, off2, rfl, hbs2, d0, d1, d2⟩ := entsAt_get Hes.out q hlt4
                  replace d0 := (hbw.cell (p := ⟨b2, off2 + q * 3, none⟩) hbs2).trans d0
                  replace d1 := (hbw.cell (p := ⟨b2, off2 + q * 3 + 1, none⟩) hbs2).trans d1
                  replace d2 := (hbw.cell (p := ⟨b2, off2 + q * 3 + 2, none⟩) hbs2).trans d2
                  have y0 := (hbw.cell (p := ⟨ba, oa + k * 3, none⟩) hba).trans X0.out
                  have y1 := (hbw.cell (p := ⟨ba, oa + k * 3 + 1, none⟩) hba).trans X1.out
                  have y2 := (hbw.cell (p := ⟨ba, oa + k * 3 + 2, none⟩) hba).trans X2.out
                  obtain ⟨t0, ht0⟩ := hsub.out q hlt4
                  have hle := Hmax.out t0 _ ht0
                  have hst := hbq.out
                  rw [rest_step p q _ hlt4] at hst
                  obtain ⟨x, hx⟩ : ∃ x, x = p.list[q] := ⟨_, rfl⟩
                  rw [← hx] at d0 d1 d2 hst hle
                  have hbal : ba < wr.heap.size := Nat.lt_of_lt_of_le hba hbw.size
                  have hbx := hbw.alloc hbw.size (.cells #[.int .i64 x.gen, .int .i64 x.bal, .string x.mark] 50)
                  have Hle := Lib.hid hle
                  have hki : (k : Int) < (A.length : Int) := by omega
                  clear hx hbq ht0 hle
                  by_cases hE : x.gen = y.gen
                  · have hE1 : (x.gen == y.gen) = true := by simpa using hE
                    have hle2 : ¬ y.bal < x.bal := by have := Hle.out hE; omega
                    have hle3 : decide (y.bal < x.bal) = false := by simpa using hle2
                    clear hE
                    cases b with
                    | true =>
                      clear hst
                      go_wp2
                      go_quiet (fail)
                      go_wp2
                      go_quiet (fail)
                      go_wp2
                      go_roundw
                      case rel => exact ⟨q + 1, _, by go_num, by omega, rfl, Lib.hid (Or.inl rfl), by repeat (first | exact hbx | refine below_drewN ?_ _)⟩
                      case measure => simp [intOf]; omega
                    | false =>
                      obtain ⟨t, ht⟩ := hst.resolve_left (by simp)
                      rcases List.mem_cons.1 ht with ht | ht
                      · cases ht
                        clear hst
                        go_wp2
                        go_quiet (fail)
                        go_wp2
                        go_quiet (fail)
                        go_wp2
                        go_roundw
                        case rel => exact ⟨q + 1, true, by go_num, by omega, by simp, Lib.hid (Or.inl rfl), by repeat (first | exact hbx | refine below_drewN ?_ _)⟩
                        case measure => simp [intOf]; omega
                      · have Hst := fun b : Bool => Lib.hid (show b = true ∨ ∃ t, (t, y) ∈ restOf p (q + 1) (flat (qs.drop (j + 1))) from Or.inr ⟨t, ht⟩)
                        have heq := fun W => run_eql_ent x y W
                        clear hst ht
                        go_wp2
                        go_quiet (fail)
                        go_wp2
                        go_quiet (fail)
                        go_wp2
                        go_roundw
                        case rel => exact ⟨q + 1, _, by go_num, by omega, rfl, Hst _, by repeat (first | exact hbx | refine below_drewN ?_ _)⟩
                        case measure => simp [intOf]; omega
                  · have hE1 : (x.gen == y.gen) = false := by simpa using hE
                    have hst2 : b = true ∨ ∃ t, (t, y) ∈ restOf p (q + 1) (flat (qs.drop (j + 1))) := by
                      rcases hst with h | ⟨t, ht⟩
                      · exact Or.inl h
                      · rcases List.mem_cons.1 ht with ht | ht
                        · cases ht; exact absurd rfl hE
                        · exact Or.inr ⟨t, ht⟩
                    have Hst2 := Lib.hid hst2
                    clear hE hst hst2
                    cases b with
                    | true =>
                      go_wp2
                      go_quiet (fail)
                      go_wp2
                      go_quiet (fail)
                      go_wp2
                      go_roundw
                      case rel => exact ⟨q + 1, _, by go_num, by omega, rfl, Lib.hid (Or.inl rfl), by repeat (first | exact hbx | refine below_drewN ?_ _)⟩
                      case measure => simp [intOf]; omega
                    | false =>
                      have Hst := fun b : Bool => Lib.hid (show b = true ∨ ∃ t, (t, y) ∈ restOf p (q + 1) (flat (qs.drop (j + 1))) from Or.inr (Hst2.out.resolve_left (by simp)))
                      have heq := fun W => run_eql_ent x y W
                      go_wp2
                      go_quiet (fail)
                      go_wp2
                      go_quiet (fail)
                      go_wp2
                      go_roundw
                      case rel => exact ⟨q + 1, _, by go_num, by omega, rfl, Hst _, by repeat (first | exact hbx | refine below_drewN ?_ _)⟩
                      case measure => simp [intOf]; omega
                · have hst := hbq.out
                  rw [rest_end p q _ (by omega)] at hst
                  have Hst := Lib.hid hst
                  clear hst hbq
                  go_wp2
                  go_roundw
                  case rel => exact ⟨j + 1, b, by go_num, by omega, rfl, Hst, hbw⟩
                  case measure => simp [intOf]; omega
            · have hbt : b = true := by
                have h := hbr3.out
                rw [List.drop_eq_nil_of_le (by omega)] at h
                rcases h with h | ⟨t, h⟩
                · exact h
                · cases h
              subst hbt
              clear hbr3
              go_wp2
              go_roundw
              case rel => exact ⟨k + 1, by go_num, by omega, hbr2⟩
              case measure => simp [intOf]; omega
        · go_wp2_with fail
          refine (awake_any _).mono ?_
          rintro e w6 ⟨rfl, hb6⟩
          go_wp2_with fail
          go_ret
          exact ⟨rfl, below_step (hb02.trans (hbr.mono hb02.size)) hb6⟩
end Go.Proofs.Ytcbanjejojgncaa
