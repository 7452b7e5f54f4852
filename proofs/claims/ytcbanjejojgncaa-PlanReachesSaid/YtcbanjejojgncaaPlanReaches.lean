/- The walk of PlanReaches: which number a majority of numbers has reached. No condition. -/
import Derived.Test.YtcbanjejojgncaaReachLaw
import Derived.Test.YtcbanjejojgncaaPlanBases
import Derived.Laws.AppendOwnNone
namespace Go.Proofs.Ytcbanjejojgncaa
open Go.RowKit

theorem info_int : (Try.prog.info? 3).map (fun i => (i.zero, i.size, i.bytes)) = some (some (.int .i64 0), 1, 8) := by kernel_rfl
theorem empty_row (w : World) (e : TypeId) : (w.alloc (.cells #[] e)).ownsRow w.heap.size e 1 (.slice (some ⟨w.heap.size, 0, none⟩) 0 0) 0 [] :=
  ⟨rfl, Or.inr ⟨w.heap.size, 0, #[], rfl, Nat.le_refl _, heap_alloc_new w _, Nat.le_refl _, Nat.zero_le _, rfl, rfl⟩⟩

/-- 'append(out, xs...)' of a row of one-cell elements that lies somewhere -/
theorem append_rows {P : Program} {w : World} {ops : Array Oper} {rest : List Oper} {o : Oper} {a : Act} {Q : Exit → Act → World → Prop} (hgd : o.guard = none) (s x : Operand) (t : TypeId)
    (ho : o.op = .call { callee := .builtin .append, args := #[s, x], argTypes := #[t, t] })
    (base : Nat) (e : TypeId) (bytes : Nat) (ht : P.underlying t = some (.slice e)) (z : Value) (hi : (P.info? e).map (fun i => (i.zero, i.size, i.bytes)) = some (some z, 1, bytes)) (hzs : z.cells.size = 1)
    (v : Value) (n : Nat) (xs : List Value) (hs : a.eval s = v) (hown : w.ownsRow base e 1 v n xs)
    (ad : Addr) (m c : Nat) (news : List Value) (hx : a.eval x = .slice (some ad) m c) (hl : news.length = m) (hnews : ∀ j u, news[j]? = some u → w.cell? (ad.add j) = some u) (h1 : ∀ u ∈ news, u.oneCell' = true)
    (h63 : n + m ≤ maxLen) (hbytes : (n + m) * bytes ≤ 140737488355328) (hbase : base ≤ w.heap.size)
    (h : ∀ v' w', w'.ownsRow base e 1 v' (n + m) (xs ++ news) → Below base w w' → wpList P ops Q rest (a.put o.dst v') w') : wpList P ops Q (o :: rest) a w := by
  obtain ⟨i0, hi, hz0, hz1, hz2⟩ := info_parts hi
  refine wpList_append_own _ hgd s x t ho base e i0 z 1 bytes ht hi hz0 hz1 hz2 hzs (by omega) v n xs hs hown ad m c news hx (by omega) hnews h1 h63 hbytes hbase ?_
  intro v' w' hown' hg _
  exact h v' w' hown' ((Below.refl _ _).grown hg hbase (fun k hk => (hown.lt k hk).1))

set_option maxRecDepth 100000 in
set_option maxHeartbeats 1000000 in
theorem planReaches_walk (a : Option Addr) (len cap : Nat) (zs : List Int) (w : World) (h : IsInts .i64 w a len cap zs) :
    Calls Try.prog 4 #[.slice a len cap] w fun e w' => e = .returned (.bool true) ∧ Below w.heap.size w w' := by
  obtain ⟨hat, hlen, _, hmax, hcap, hcm⟩ := isInts_at h
  unfold maxLen at hmax hcm
  have hae := fun wx : World => empty_row wx 3
  rcases h with ⟨rfl, rfl, rfl, rfl⟩ | ⟨x, rfl, _⟩
  · clear hat hlen
    have hr0 : reach [] = 0 := rfl
    go_enter Try.func4, Try.ntmps4
    obtain ⟨i0, hi, hz0, hz1, hz2⟩ := info_parts info_int
    go_wp2_with (at_builtin; refine wpList_append_own_none rfl _ _ 25 rfl w.heap.size 3 i0 1 Try.underlying25 hi _ 0 [] rfl (hae w) rfl ?_)
    have hb0 := (Below.refl w.heap.size w).alloc (Nat.le_refl _) (.cells #[] 3)
    generalize w.alloc (.cells #[] 3) = w1 at hb0 ⊢
    go_wp2_with fail
    refine (reached_any _ none 0 [] (by simp) (Or.inl rfl)).mono ?_
    rintro e w2 ⟨rfl, hb2⟩
    rw [hr0]
    go_wp2_with fail
    refine (awake_any _).mono ?_
    rintro e w3 ⟨rfl, hb3⟩
    go_wp2_with fail
    go_ret
    exact ⟨rfl, below_step (below_step hb0 hb2) hb3⟩
  · have Hat := Lib.hid hat
    have Hlen := Lib.hid hlen
    clear hat hlen
    go_enter Try.func4, Try.ntmps4
    go_upto_if 11 with (fail)
    go_cut [0] (fun v wx => ∃ n : Nat, v = .slice (some x) n cap ∧ n ≤ 60 ∧ n ≤ len ∧ w = wx)
    case first =>
      by_cases h : len ≤ 60
      · go_wp2
        go_meet
        exact ⟨_, rfl, h, Nat.le_refl _, rfl⟩
      · go_wp2
        go_meet
        exact ⟨60, rfl, by omega, by omega, rfl⟩
    case rest =>
      obtain ⟨n, rfl, hn, hnl, rfl⟩ := hcut
      obtain ⟨l, hl, hll⟩ : ∃ l : List Int, l = (zs.take len).take n ∧ l.length = n := ⟨_, rfl, by rw [List.length_take, Hlen.out]; omega⟩
      have H := Lib.hid (show IntsAt .i64 w (some x) l by rw [hl]; exact intsAt_take Hat.out n)
      clear hl Hat Hlen
      subst hll
      go_wp2_with (at_builtin; refine append_rows rfl _ _ 25 rfl w.heap.size 3 8 Try.underlying25 _ info_int rfl _ 0 [] rfl (hae w) x l.length cap (l.map (Value.int .i64)) rfl ?d1 ?d2 ?d3 ?d4 ?d5 ?d6 ?_)
      case d1 => simp
      case d4 => unfold maxLen; omega
      case d5 => omega
      case d6 => simp
      case d2 =>
        intro j u hj
        rw [List.getElem?_map] at hj
        have hjl : j < l.length := by
          rcases Nat.lt_or_ge j l.length with h | h
          · exact h
          · rw [List.getElem?_eq_none h] at hj; cases hj
        obtain ⟨b, off, hx, hc⟩ := intsAt_cell H.out j hjl
        injection hx with hx
        subst hx
        rw [List.getElem?_eq_getElem hjl] at hj
        injection hj with hj
        have hbl : b < w.heap.size := World.block_lt_of_cell? w _ hc
        have e1 : (⟨b, off, none⟩ : Addr).add j = ⟨b, off + j, none⟩ := by
          unfold Addr.add
          split
          · subst j; rfl
          · rfl
        rw [e1, World.cell?_alloc_lt w _ ⟨b, off + j, none⟩ hbl, hc, hj]
      case d3 =>
        intro u hu
        obtain ⟨y, _, rfl⟩ := List.mem_map.1 hu
        rfl
      · intro v w2 hown hb2
        have hb02 : Below w.heap.size w w2 := ((Below.refl w.heap.size w).alloc (Nat.le_refl _) (.cells #[] 3)).trans hb2
        clear hb2 hae
        obtain ⟨ad, cap2, rfl⟩ := row_shape hown
        have H2 := Lib.hid (intsAt_below H.out hb02)
        go_wp2_with fail
        refine (reached_any w2 (some x) cap l (by omega) H2.out).mono ?_
        rintro e w3 ⟨rfl, hb3⟩
        have H3 := Lib.hid (intsAt_below H2.out hb3)
        have hown3 := ownsRow_below hown hb3
        have hb03 := below_step hb02 hb3
        clear hown hb3 hb02 H2 H
        obtain ⟨ad', cap2', hv, _, hm2, _, hnil, hsome⟩ := row_open hown3
        injection hv with hv1 _ hv2
        subst hv1; subst hv2
        unfold maxLen at hm2
        clear hown3
        have Hn := Lib.hid hnil
        have Hs := Lib.hid hsome
        clear hnil hsome
        by_cases h0 : l.length = 0
        · have hr : reach l = 0 := by unfold reach; rw [if_pos h0]
          rw [hr]
          go_wp2_with fail
          refine (awake_any _).mono ?_
          rintro e w4 ⟨rfl, hb4⟩
          go_wp2_with fail
          go_ret
          exact ⟨rfl, below_step hb03 hb4⟩
        · have R1 := Lib.hid (reach_mem l h0)
          have R2 := Lib.hid (reach_least l h0)
          have R3 := Lib.hid (reach_more l h0)
          obtain ⟨r, hr⟩ : ∃ r, r = reach l := ⟨_, rfl⟩
          rw [← hr] at R1 R2 R3
          rw [← hr]
          clear hr
          go_wp2_with fail
          go_loopw [5, 6, 7, 8] (fun a b t i wr => ∃ (k : Nat) (x y : Nat) (z : Bool), k ≤ l.length ∧ i = .int .i64 k ∧ a = .int .i64 x ∧ b = .int .i64 y ∧ t = .bool z ∧ x ≤ k ∧ y ≤ k ∧ Hid (x = (l.take k).countP (fun x => decide (r ≤ x))) ∧ Hid (y = (l.take k).countP (fun x => decide (r < x))) ∧ Hid (z = decide (r ∈ l.take k)) ∧ ∃ m, wr = w3.drewN m) (fun _ _ _ i _ => l.length - (intOf i).toNat)
          case atStart => exact ⟨0, 0, 0, false, Nat.zero_le _, rfl, rfl, rfl, rfl, Nat.zero_le _, Nat.zero_le _, Lib.hid rfl, Lib.hid rfl, Lib.hid (by simp), 0, rfl⟩
          case round =>
            obtain ⟨k, c1, c2, t, hk, rfl, rfl, rfl, rfl, hc1, hc2, HC1, HC2, HT, m, rfl⟩ := hrel
            by_cases hlt : k < l.length
            · obtain ⟨b, off, hx, hc⟩ := intsAt_cell H3.out k hlt
              injection hx with hx
              subst hx
              cases ad with
              | none => have := Hn.out rfl; omega
              | some y =>
                obtain ⟨g2, rfl, hg1, hg2, hcell⟩ := Hs.out y rfl
                have hcl := hcell k hlt
                rw [List.getElem?_map, List.getElem?_eq_getElem hlt] at hcl
                replace hcl : w3.cell? ⟨g2, k, none⟩ = some (.int .i64 l[k]) := hcl
                have E1 := Lib.hid (countP_snoc (fun x => decide (r ≤ x)) l k hlt)
                have E2 := Lib.hid (countP_snoc (fun x => decide (r < x)) l k hlt)
                have E3 := Lib.hid (mem_snoc r l k hlt)
                obtain ⟨q, hq⟩ : ∃ q, q = l[k] := ⟨_, rfl⟩
                rw [← hq] at hc hcl E1 E2 E3
                clear hq hcell
                cases t
                · by_cases g1 : r ≤ q
                  · by_cases g2 : r < q
                    · go_wp2_with (go_quiet (fail))
                      all_goals (
                        go_round
                        case rel => exact ⟨k + 1, c1 + 1, c2 + 1, (q == r), by omega, by go_num, by go_num, by go_num, rfl, by omega, by omega, Lib.hid (by rw [E1.out, ← HC1.out, if_pos (by simpa using g1)]), Lib.hid (by rw [E2.out, ← HC2.out, if_pos (by simpa using g2)]), Lib.hid (by rw [E3.out, ← HT.out]; rfl), m + nq, by simp⟩
                        case measure => simp [intOf]; omega)
                    · go_wp2_with (go_quiet (fail))
                      all_goals (
                        go_round
                        case rel => exact ⟨k + 1, c1 + 1, c2, (q == r), by omega, by go_num, by go_num, rfl, rfl, by omega, by omega, Lib.hid (by rw [E1.out, ← HC1.out, if_pos (by simpa using g1)]), Lib.hid (by rw [E2.out, ← HC2.out, if_neg (by simpa using g2), Nat.add_zero]), Lib.hid (by rw [E3.out, ← HT.out]; rfl), m + nq, by simp⟩
                        case measure => simp [intOf]; omega)
                  · have g2 : ¬ r < q := by omega
                    go_wp2_with (go_quiet (fail))
                    all_goals (
                      go_round
                      case rel => exact ⟨k + 1, c1, c2, (q == r), by omega, by go_num, rfl, rfl, rfl, by omega, by omega, Lib.hid (by rw [E1.out, ← HC1.out, if_neg (by simpa using g1), Nat.add_zero]), Lib.hid (by rw [E2.out, ← HC2.out, if_neg (by simpa using g2), Nat.add_zero]), Lib.hid (by rw [E3.out, ← HT.out]; rfl), m + nq, by simp⟩
                      case measure => simp [intOf]; omega)
                · by_cases g1 : r ≤ q
                  · by_cases g2 : r < q
                    · go_wp2_with (go_quiet (fail))
                      all_goals (
                        go_round
                        case rel => exact ⟨k + 1, c1 + 1, c2 + 1, true, by omega, by go_num, by go_num, by go_num, rfl, by omega, by omega, Lib.hid (by rw [E1.out, ← HC1.out, if_pos (by simpa using g1)]), Lib.hid (by rw [E2.out, ← HC2.out, if_pos (by simpa using g2)]), Lib.hid (by rw [E3.out, ← HT.out]; rfl), m + nq, by simp⟩
                        case measure => simp [intOf]; omega)
                    · go_wp2_with (go_quiet (fail))
                      all_goals (
                        go_round
                        case rel => exact ⟨k + 1, c1 + 1, c2, true, by omega, by go_num, by go_num, rfl, rfl, by omega, by omega, Lib.hid (by rw [E1.out, ← HC1.out, if_pos (by simpa using g1)]), Lib.hid (by rw [E2.out, ← HC2.out, if_neg (by simpa using g2), Nat.add_zero]), Lib.hid (by rw [E3.out, ← HT.out]; rfl), m + nq, by simp⟩
                        case measure => simp [intOf]; omega)
                  · have g2 : ¬ r < q := by omega
                    go_wp2_with (go_quiet (fail))
                    all_goals (
                      go_round
                      case rel => exact ⟨k + 1, c1, c2, true, by omega, by go_num, rfl, rfl, rfl, by omega, by omega, Lib.hid (by rw [E1.out, ← HC1.out, if_neg (by simpa using g1), Nat.add_zero]), Lib.hid (by rw [E2.out, ← HC2.out, if_neg (by simpa using g2), Nat.add_zero]), Lib.hid (by rw [E3.out, ← HT.out]; rfl), m + nq, by simp⟩
                      case measure => simp [intOf]; omega)
            · have hk' : k = l.length := by omega
              subst hk'
              rw [List.take_length] at HC1 HC2 HT
              have hd1 : decide ((l.length : Int) < 2 * (c1 : Int)) = true := by have := R2.out; have := HC1.out; simp; omega
              have hd2 : decide (2 * (c2 : Int) ≤ (l.length : Int)) = true := by have := R3.out; have := HC2.out; simp; omega
              have ht : t = true := by rw [HT.out]; simpa using R1.out
              subst ht
              go_wp2_with fail
              refine (awake_any _).mono ?_
              rintro e w4 ⟨rfl, hb4⟩
              go_wp2_with fail
              go_ret
              exact ⟨rfl, below_step (below_drewN hb03 m) hb4⟩
end Go.Proofs.Ytcbanjejojgncaa
