/- The walk of the law's merged, which answers as plan.Merge. Condition: the promises' tops are at most 2^61. -/
import Derived.Test.YtcbanjejojgncaaFew
namespace Go.Proofs.Ytcbanjejojgncaa
open Go.RowKit

def optEnt (g : Int) (o : Option ByteArray) : List Ent := match o with
  | none => []
  | some m => [⟨g, 0, m⟩]
def KState (ps : List Prom) (g : Int) (o : Option ByteArray) (rest : List (Int × Ent)) : Prop := match o with
  | none => knownOf ps g = knownIn rest g
  | some m => knownOf ps g = some m
theorem KState_end {ps : List Prom} {g : Int} {o : Option ByteArray} (h : KState ps g o []) : knownOf ps g = o := by
  cases o <;> exact h
theorem KState_some {ps : List Prom} {g : Int} {m : ByteArray} {r1 r2 : List (Int × Ent)} (h : KState ps g (some m) r1) : KState ps g (some m) r2 := h
theorem chosenFrom_succ (ps : List Prom) (n : Nat) (g : Int) : chosenFrom ps (n + 1) g = optEnt g (knownOf ps g) ++ chosenFrom ps n (g + 1) := by
  rw [chosenFrom]
  cases knownOf ps g <;> rfl
def zEnt1 : Ent := ⟨0, -1, ⟨#[]⟩⟩
def bestVals1 (st : Option Ent) : List Value := entVals (st.getD zEnt1)
theorem maxf (a b : Int) (h : a < b) : max a b = b := by omega
theorem maxn (a b : Int) (h : ¬ a < b) : max a b = a := by omega

set_option maxRecDepth 100000 in
set_option maxHeartbeats 8000000 in
theorem merged_any (ad : Option Addr) (cap : Nat) (ps : List Prom) (w : World) (hl : ps.length ≤ 1000000) (hll : ∀ p ∈ ps, p.list.length ≤ 1000000) (ht : ∀ p ∈ ps, p.top ≤ 2305843009213693952) (h : PromsAt w ad ps) :
    Calls Try.prog 24 #[.slice ad ps.length cap] w (MergeSays ps w) := by
  have H := Lib.hid h
  have Hll := Lib.hid hll
  have Ht := Lib.hid ht
  clear h hll ht
  go_enter Try.func24, Try.ntmps24
  go_wp2
  go_loopw [6, 7, 8] (fun f t i wr => ∃ (k : Nat) (a b : Int), i = .int .i64 k ∧ k ≤ ps.length ∧ f = .int .i64 a ∧ t = .int .i64 b ∧ Hid (floorFrom 0 ps = floorFrom a (ps.drop k)) ∧ Hid (topOf ps = topFrom b (ps.drop k)) ∧ 0 ≤ a ∧ 0 ≤ b ∧ b ≤ 2305843009213693952 ∧ Below w.heap.size w wr) (fun _ _ i _ => ps.length - (intOf i).toNat)
  case atStart => exact ⟨0, 0, 0, rfl, Nat.zero_le _, rfl, rfl, Lib.hid rfl, Lib.hid rfl, by omega, by omega, by omega, Below.refl _ _⟩
  case round =>
    obtain ⟨i, a, b, rfl, hi, rfl, rfl, ha, hb, ha0, hb0, hb1, hbr⟩ := hrel
    by_cases hlt : i < ps.length
    · obtain ⟨bl, off, la, lc, rfl, hbs, c0, c1, c2, _⟩ := promsAt_get H.out i hlt
      replace c0 := (hbr.cell (p := ⟨bl, off + i * 3, none⟩) hbs).trans c0
      replace c1 := (hbr.cell (p := ⟨bl, off + i * 3 + 1, none⟩) hbs).trans c1
      have hps := Lib.hid (drop_step ps i hlt)
      have htp := Ht.out _ (List.getElem_mem hlt)
      obtain ⟨p, hp⟩ : ∃ p, p = ps[i] := ⟨_, rfl⟩
      rw [← hp] at c0 c1 c2 hps htp
      have ha' : floorFrom 0 ps = floorFrom (max a p.floor) (ps.drop (i + 1)) := by rw [ha.out, hps.out]; rfl
      have hb' : topOf ps = topFrom (max b p.top) (ps.drop (i + 1)) := by rw [hb.out, hps.out]; rfl
      clear hp hps c2
      by_cases hf : a < p.floor
      all_goals
        first | (rw [maxf _ _ hf] at ha') | (rw [maxn _ _ hf] at ha')
        have Ha := Lib.hid ha'
        clear ha'
        by_cases htt : b < p.top
        all_goals
          first | (rw [maxf _ _ htt] at hb') | (rw [maxn _ _ htt] at hb')
          have Hb := Lib.hid hb'
          clear hb'
          go_wp2
          go_roundw
          case rel => exact ⟨i + 1, _, _, by go_num, by omega, rfl, rfl, Ha, Hb, by omega, by omega, by omega, hbr⟩
          case measure => simp [intOf]; omega
    · have hi' : i = ps.length := by omega
      subst hi'
      have hfa : floorFrom 0 ps = a := by rw [ha.out, List.drop_length]; rfl
      have hta : topOf ps = b := by rw [hb.out, List.drop_length]; rfl
      obtain ⟨F, hF⟩ : ∃ F, F = min a b := ⟨_, rfl⟩
      have hFo : floorOf ps = F := by unfold floorOf; rw [hfa, hta, hF]
      obtain ⟨n, hn⟩ : ∃ n, n = min (b - F).toNat 64 := ⟨_, rfl⟩
      have hch := Lib.hid (show chosenOf ps = [] ++ chosenFrom ps n F by unfold chosenOf; rw [hFo, hta, ← hn]; rfl)
      have hF0 : 0 ≤ F := by omega
      have hFb : F ≤ b := by omega
      have hnF : F + (n : Int) ≤ b := by omega
      have hn64 : n ≤ 64 := by omega
      have hnd : (n : Int) < 64 → F + (n : Int) = b := by omega
      have HFo := Lib.hid hFo
      have Hta := Lib.hid hta
      clear hfa hta hFo hn ha hb hlt hi
      obtain ⟨wo, rfl⟩ : ∃ wo : World, wo = wr := ⟨_, rfl⟩
      go_upto_if 53 with (fail)
      go_cut [6] (fun v wx => v = .int .i64 F ∧ wo = wx)
      case first =>
        by_cases hab : b < a
        · have e : F = b := by omega
          subst e
          clear hF
          go_wp2
          go_meet
          exact ⟨rfl, rfl⟩
        · have e : F = a := by omega
          subst e
          clear hF
          go_wp2
          go_meet
          exact ⟨rfl, rfl⟩
      case rest =>
        obtain ⟨rfl, rfl⟩ := hcut
        clear hF
        go_wp2
        go_loopw [9, 11] (fun v g wr => ∃ (k : Nat) (L : List Ent), g = .int .i64 (F + (k : Int)) ∧ k ≤ n ∧ L.length ≤ k ∧ Hid (chosenOf ps = L ++ chosenFrom ps (n - k) (F + (k : Int))) ∧ Hid (wr.ownsRow w.heap.size 50 3 v L.length (entsVals L)) ∧ Below w.heap.size w wr) (fun _ g _ => (F + (n : Int) - intOf g).toNat)
        case atStart => exact ⟨0, [], by simp, Nat.zero_le _, Nat.le_refl _, by simpa using hch, Lib.hid (World.ownsRow_nil _ _ _ _), hbr⟩
        case round =>
          obtain ⟨k, L, rfl, hk, hL, hc, hown, hbw⟩ := hrel
          by_cases hlt : k < n
          · have h1 : F + (k : Int) < b := by omega
            have h2 : F + (k : Int) < F + 64 := by omega
            obtain ⟨r, hr⟩ : ∃ r, n - k = r + 1 := ⟨n - k - 1, by omega⟩
            have hstep := hc.out
            rw [hr, chosenFrom_succ] at hstep
            have hr2 : n - (k + 1) = r := by omega
            have hg2 : F + (k : Int) + 1 = F + ((k + 1 : Nat) : Int) := by omega
            rw [← hr2, hg2] at hstep
            have Hstep := Lib.hid hstep
            have hL64 : L.length ≤ 64 := by omega
            clear hr hr2 hg2 hc hstep
            obtain ⟨G, hG⟩ : ∃ G, G = F + (k : Int) := ⟨_, rfl⟩
            have hGi : G + 1 = F + ((k + 1 : Nat) : Int) := by omega
            have hGb : G < b := by omega
            have hG0 : 0 ≤ G := by omega
            have hGF : G < F + 64 := by omega
            have hGm : (F + (n : Int) - (G + 1)).toNat < (F + (n : Int) - G).toNat := by omega
            rw [← hG] at Hstep h1 h2 ⊢
            have HGi := Lib.hid hGi
            have HGm := Lib.hid hGm
            clear hG hGi hGm
            obtain ⟨w1, rfl⟩ : ∃ w1 : World, w1 = wr := ⟨_, rfl⟩
            go_wp2
            go_loopw [9, 12, 13] (fun v d i wr => ∃ (i' : Nat) (o : Option ByteArray), i = .int .i64 i' ∧ i' ≤ ps.length ∧ d = .bool o.isSome ∧ Hid (KState ps G o (flat (ps.drop i'))) ∧ Hid (wr.ownsRow w.heap.size 50 3 v (L ++ optEnt G o).length (entsVals (L ++ optEnt G o))) ∧ Below w.heap.size w wr) (fun _ _ i _ => ps.length - (intOf i).toNat)
            case atStart => exact ⟨0, none, rfl, Nat.zero_le _, rfl, Lib.hid (show knownOf ps G = knownIn (flat ps) G from rfl), by simpa [optEnt] using hown, hbw⟩
            case round =>
              obtain ⟨i, o, rfl, hi, rfl, hks, hown1, hbw1⟩ := hrel
              by_cases hlt2 : i < ps.length
              · obtain ⟨bl, off, la, lc, rfl, hbs, _, c1, c2, hes⟩ := promsAt_get H.out i hlt2
                have hin : ps[i].list.length ≤ 1000000 := Hll.out _ (List.getElem_mem hlt2)
                have hk2 := hks.out
                rw [rest_zero ps i hlt2] at hk2
                obtain ⟨p, hp⟩ : ∃ p, p = ps[i] := ⟨_, rfl⟩
                rw [← hp] at c1 c2 hes hin hk2
                have Hes := Lib.hid hes
                have Hk2 := Lib.hid hk2
                have C1 := Lib.hid c1
                have C2 := Lib.hid c2
                clear hp hes hks hk2 c1 c2
                obtain ⟨w2, rfl⟩ : ∃ w2 : World, w2 = wr := ⟨_, rfl⟩
                obtain ⟨s0, hs0⟩ : ∃ s0 : Bool, s0 = o.isSome := ⟨_, rfl⟩
                rw [← hs0]
                have Hs0 := Lib.hid hs0
                clear hs0
                go_wp2
                go_loopw [9, 12, 14] (fun v d j wr => ∃ (k : Nat) (o : Option ByteArray), j = .int .i64 k ∧ k ≤ p.list.length ∧ d = .bool o.isSome ∧ Hid (KState ps G o (restOf p k (flat (ps.drop (i + 1))))) ∧ Hid (wr.ownsRow w.heap.size 50 3 v (L ++ optEnt G o).length (entsVals (L ++ optEnt G o))) ∧ Below w.heap.size w wr) (fun _ _ j _ => p.list.length - (intOf j).toNat)
                case atStart => exact ⟨0, o, rfl, Nat.zero_le _, by rw [Hs0.out], Hk2, hown1, hbw1⟩
                case round =>
                  obtain ⟨q, o, rfl, hq, rfl, hks, hown2, hbw2⟩ := hrel
                  have c1 := (hbw2.cell (p := ⟨bl, off + i * 3 + 1, none⟩) hbs).trans C1.out
                  have c2 := (hbw2.cell (p := ⟨bl, off + i * 3 + 2, none⟩) hbs).trans C2.out
                  cases o with
                  | some m =>
                    have hcase : q < p.list.length ∨ p.list.length ≤ q := by omega
                    rcases hcase with hx | hx
                    all_goals
                      go_wp2
                      go_roundw
                      case rel => exact ⟨i + 1, some m, by go_num, by omega, rfl, hks, hown2, hbw2⟩
                      case measure => simp [intOf]; omega
                  | none =>
                    by_cases hlt3 : q < p.list.length
                    · obtain ⟨b2, off2, rfl, hbs2, d0, d1, d2⟩ := entsAt_get Hes.out q hlt3
                      replace d0 := (hbw2.cell (p := ⟨b2, off2 + q * 3, none⟩) hbs2).trans d0
                      replace d2 := (hbw2.cell (p := ⟨b2, off2 + q * 3 + 2, none⟩) hbs2).trans d2
                      have hst : knownOf ps G = knownIn (restOf p q (flat (ps.drop (i + 1)))) G := hks.out
                      rw [rest_step p q _ hlt3, knownIn_cons] at hst
                      obtain ⟨x, hx⟩ : ∃ x, x = p.list[q] := ⟨_, rfl⟩
                      rw [← hx] at d0 d1 d2 hst
                      clear hx d1 hks
                      have hmt : x.gen = G ∧ G < p.top ∨ ¬ G < p.top ∨ G < p.top ∧ ¬ x.gen = G := by omega
                      rcases hmt with ⟨hg, hm⟩ | hm
                      · rw [if_pos ⟨hg, hm⟩] at hst
                        have Hst := Lib.hid (show KState ps G (some x.mark) (restOf p (q + 1) (flat (ps.drop (i + 1)))) from hst)
                        clear hst
                        have hown3 := hown2.out
                        simp only [optEnt, List.append_nil] at hown3
                        go_wp2_with (at_builtin; refine append_at rfl _ _ 42 rfl w.heap.size 50 3 32 Try.underlying42 _ info_entry rfl (by decide) _ _ _ rfl hown3 _ rfl [.int .i64 G, .int .i64 0, .string x.mark] rfl rfl (by simp [Value.oneCell']) ?c1 ?c2 ?c3 ?_)
                        case c1 => unfold maxLen; omega
                        case c2 => omega
                        case c3 => exact hbw2.size
                        intro v' w3 hown4 hb3
                        have Hown4 : Hid (w3.ownsRow w.heap.size 50 3 v' (L ++ optEnt G (some x.mark)).length (entsVals (L ++ optEnt G (some x.mark)))) := by
                          show w3.ownsRow w.heap.size 50 3 v' (L ++ [(⟨G, 0, x.mark⟩ : Ent)]).length (entsVals (L ++ [(⟨G, 0, x.mark⟩ : Ent)]))
                          rw [entsVals_snoc, List.length_append]
                          exact hown4
                        clear hown4 hown3
                        go_wp2
                        go_roundw
                        case rel => exact ⟨q + 1, some x.mark, by go_num, by omega, rfl, Hst, Hown4, hbw2.trans hb3⟩
                        case measure => simp [intOf]; omega
                      · have hn : ¬ (x.gen = G ∧ G < p.top) := by omega
                        rw [if_neg hn] at hst
                        have Hst := Lib.hid (show KState ps G none (restOf p (q + 1) (flat (ps.drop (i + 1)))) from hst)
                        clear hst hn
                        rcases hm with hm | ⟨hm, hg⟩
                        all_goals
                          go_wp2
                          go_roundw
                          case rel => exact ⟨q + 1, none, by go_num, by omega, rfl, Hst, hown2, hbw2⟩
                          case measure => simp [intOf]; omega
                    · have hst : knownOf ps G = knownIn (restOf p q (flat (ps.drop (i + 1)))) G := hks.out
                      rw [rest_end p q _ (by omega)] at hst
                      have Hst := Lib.hid (show KState ps G none (flat (ps.drop (i + 1))) from hst)
                      clear hst hks
                      go_wp2
                      go_roundw
                      case rel => exact ⟨i + 1, none, by go_num, by omega, rfl, Hst, hown2, hbw2⟩
                      case measure => simp [intOf]; omega
              · have hst := hks.out
                rw [List.drop_eq_nil_of_le (by omega)] at hst
                have hko := KState_end hst
                have Hnew := Lib.hid (show chosenOf ps = (L ++ optEnt G o) ++ chosenFrom ps (n - (k + 1)) (F + ((k + 1 : Nat) : Int)) by rw [Hstep.out, hko, List.append_assoc])
                have hlen : (L ++ optEnt G o).length ≤ k + 1 := by cases o <;> simp [optEnt] <;> omega
                obtain ⟨s0, hs0⟩ : ∃ s0 : Bool, s0 = o.isSome := ⟨_, rfl⟩
                rw [← hs0]
                have Hs0 := Lib.hid hs0
                clear hs0 hst hko hks
                go_wp2
                go_roundw
                case rel => exact ⟨k + 1, L ++ optEnt G o, by rw [← HGi.out], by omega, hlen, Hnew, hown1, hbw1⟩
                case measure => simp [intOf]; have := HGm.out; omega
          · obtain rfl : k = n := by omega
            have hLe := hc.out
            rw [Nat.sub_self, chosenFrom, List.append_nil] at hLe
            have HL1 := Lib.hid hLe
            have hL64 : L.length ≤ 64 := by omega
            have hag := Lib.hid (show againOf ps = [] ++ againFrom ps (16 - 0) (b + ((0 : Nat) : Int)) by unfold againOf; rw [Hta.out]; simp)
            have hpw := Lib.hid (promsAt_below H.out hbw)
            clear hLe hc hlt H
            obtain ⟨w2, rfl⟩ : ∃ w2 : World, w2 = wr := ⟨_, rfl⟩
            have hcase : F + (k : Int) < b ∧ F + 64 ≤ F + (k : Int) ∨ b ≤ F + (k : Int) := by omega
            rcases hcase with ⟨hx1, hx2⟩ | hx1
            all_goals
              go_wp2_with fail
              go_loopw [10, 15] (fun v g wr => ∃ (j : Nat) (L2 : List Ent), g = .int .i64 (b + (j : Int)) ∧ j ≤ 16 ∧ L2.length ≤ j ∧ Hid (againOf ps = L2 ++ againFrom ps (16 - j) (b + (j : Int))) ∧ Hid (wr.ownsRow w2.heap.size 50 3 v L2.length (entsVals L2)) ∧ Below w2.heap.size w2 wr) (fun _ g _ => (b + 16 - intOf g).toNat)
              case atStart => exact ⟨0, [], by simp, Nat.zero_le _, Nat.le_refl _, hag, Lib.hid (World.ownsRow_nil _ _ _ _), Below.refl _ _⟩
              case round =>
                obtain ⟨j, L2, rfl, hj, hL2, hc2, hown3, hb3⟩ := hrel
                by_cases hlt : j < 16
                · obtain ⟨r, hr⟩ : ∃ r, 16 - j = r + 1 := ⟨16 - j - 1, by omega⟩
                  have hstep := hc2.out
                  rw [hr, againFrom] at hstep
                  have hr2 : 16 - (j + 1) = r := by omega
                  have hg2 : b + (j : Int) + 1 = b + ((j + 1 : Nat) : Int) := by omega
                  rw [← hr2, hg2] at hstep
                  have Hstep := Lib.hid hstep
                  have hpw3 := Lib.hid (promsAt_below hpw.out hb3)
                  obtain ⟨G, hG⟩ : ∃ G, G = b + (j : Int) := ⟨_, rfl⟩
                  have hGi : G + 1 = b + ((j + 1 : Nat) : Int) := by omega
                  have hGb : G < b + 16 := by omega
                  have hG0 : 0 ≤ G := by omega
                  have hGm : (b + 16 - (G + 1)).toNat < (b + 16 - G).toNat := by omega
                  rw [← hG] at Hstep ⊢
                  have HGi := Lib.hid hGi
                  have HGm := Lib.hid hGm
                  clear hr hr2 hg2 hc2 hstep hG hGi hGm
                  obtain ⟨w5, rfl⟩ : ∃ w5 : World, w5 = wr := ⟨_, rfl⟩
                  go_wp2
                  have hb6 : Below w5.heap.size w5 (w5.alloc (.cells #[.int .i64 0, .int .i64 (-1), .string ⟨#[]⟩] 50)) := (Below.refl _ _).alloc (Nat.le_refl _) _
                  have hbest : Blk (w5.alloc (.cells #[.int .i64 0, .int .i64 (-1), .string ⟨#[]⟩] 50)) w5.heap.size (bestVals1 none) 50 := Blk.new w5 _ _
                  generalize (w5.alloc (.cells #[.int .i64 0, .int .i64 (-1), .string ⟨#[]⟩] 50)) = w6 at hb6 hbest ⊢
                  obtain ⟨bb, hbb⟩ : ∃ bb, bb = w5.heap.size := ⟨_, rfl⟩
                  rw [← hbb] at hbest ⊢
                  have Hbest := Lib.hid hbest
                  have hble : w5.heap.size ≤ bb := Nat.le_of_eq hbb.symm
                  clear hbest hbb
                  go_loopw [17, 18] (fun h i wr => ∃ (k : Nat) (st : Option Ent), i = .int .i64 k ∧ k ≤ ps.length ∧ h = .bool st.isSome ∧ Hid (greatOf ps G = greatFrom G st (flat (ps.drop k))) ∧ Hid (Blk wr bb (bestVals1 st) 50) ∧ Below w5.heap.size w5 wr) (fun _ i _ => ps.length - (intOf i).toNat)
                  case atStart => exact ⟨0, none, rfl, Nat.zero_le _, rfl, Lib.hid rfl, Hbest, hb6⟩
                  case round =>
                    obtain ⟨i, st, rfl, hi, rfl, hk, HB, hbr⟩ := hrel
                    by_cases hlt2 : i < ps.length
                    · obtain ⟨bl, off, la, lc, rfl, hbs, _, c1, c2, hes⟩ := promsAt_get hpw3.out i hlt2
                      have hin : ps[i].list.length ≤ 1000000 := Hll.out _ (List.getElem_mem hlt2)
                      have hk2 := hk.out
                      rw [rest_zero ps i hlt2] at hk2
                      obtain ⟨p, hp⟩ : ∃ p, p = ps[i] := ⟨_, rfl⟩
                      rw [← hp] at c1 c2 hes hin hk2
                      have Hes := Lib.hid hes
                      have Hk2 := Lib.hid hk2
                      have C2 := Lib.hid c2
                      clear hp hes hk hk2 c1 c2
                      obtain ⟨w7, rfl⟩ : ∃ w7 : World, w7 = wr := ⟨_, rfl⟩
                      obtain ⟨s0, hs0⟩ : ∃ s0 : Bool, s0 = st.isSome := ⟨_, rfl⟩
                      rw [← hs0]
                      have Hs0 := Lib.hid hs0
                      clear hs0
                      go_wp2
                      go_loopw [17, 19] (fun h j wr => ∃ (k : Nat) (st : Option Ent), j = .int .i64 k ∧ k ≤ p.list.length ∧ h = .bool st.isSome ∧ Hid (greatOf ps G = greatFrom G st (restOf p k (flat (ps.drop (i + 1))))) ∧ Hid (Blk wr bb (bestVals1 st) 50) ∧ Below w5.heap.size w5 wr) (fun _ j _ => p.list.length - (intOf j).toNat)
                      case atStart => exact ⟨0, st, rfl, Nat.zero_le _, by rw [Hs0.out], Hk2, HB, hbr⟩
                      case round =>
                        obtain ⟨q, st, rfl, hq, rfl, hko, HB3, hbw3⟩ := hrel
                        have c2 := (hbw3.cell (p := ⟨bl, off + i * 3 + 2, none⟩) hbs).trans C2.out
                        by_cases hlt3 : q < p.list.length
                        · obtain ⟨b2, off2, rfl, hbs2, d0, d1, d2⟩ := entsAt_get Hes.out q hlt3
                          replace d0 := (hbw3.cell (p := ⟨b2, off2 + q * 3, none⟩) hbs2).trans d0
                          replace d1 := (hbw3.cell (p := ⟨b2, off2 + q * 3 + 1, none⟩) hbs2).trans d1
                          replace d2 := (hbw3.cell (p := ⟨b2, off2 + q * 3 + 2, none⟩) hbs2).trans d2
                          have hstep := hko.out
                          rw [rest_step p q _ hlt3, greatFrom_cons] at hstep
                          obtain ⟨x, hx⟩ : ∃ x, x = p.list[q] := ⟨_, rfl⟩
                          rw [← hx] at d0 d1 d2 hstep
                          clear hx
                          have hbbl := HB3.out.lt
                          have e0 := HB3.out.cell 0
                          have e1 := HB3.out.cell 1
                          have e2 := HB3.out.cell 2
                          have f0 := HB3.out.free 0
                          have f1 := HB3.out.free 1
                          have f2 := HB3.out.free 2
                          simp only [bestVals1, entVals, List.getElem?_cons_succ, List.getElem?_cons_zero] at e0 e1 e2
                          have hbx := hbw3.alloc hbw3.size (.cells #[.int .i64 x.gen, .int .i64 x.bal, .string x.mark] 50)
                          have hBx := Lib.hid (HB3.out.alloc (.cells #[.int .i64 x.gen, .int .i64 x.bal, .string x.mark] 50))
                          have hne : bb ≠ wr.heap.size := Nat.ne_of_lt hbbl
                          have hset := (((HB3.out.set 0 (.int .i64 x.gen)).set 1 (.int .i64 x.bal)).set 2 (.string x.mark)).alloc (.cells #[.int .i64 x.gen, .int .i64 x.bal, .string x.mark] 50)
                          simp only [bestVals1, entVals, List.set_cons_zero, List.set_cons_succ] at hset
                          have hbt := (((hbw3.setCell (p := ⟨bb, 0, none⟩) hble (.int .i64 x.gen)).setCell (p := ⟨bb, 1, none⟩) hble (.int .i64 x.bal)).setCell (p := ⟨bb, 2, none⟩) hble (.string x.mark)).alloc (by simp [World.setCell]; exact hbw3.size) (.cells #[.int .i64 x.gen, .int .i64 x.bal, .string x.mark] 50)
                          have Hset := Lib.hid hset
                          have Hbt := Lib.hid hbt
                          have Hbx := Lib.hid hbx
                          clear hset hbt hbx
                          by_cases hg : x.gen = G
                          · cases hst : st with
                            | none =>
                              subst hst
                              have hstep2 := Lib.hid (hstep.trans (congrArg (fun s => greatFrom G s (restOf p (q + 1) (flat (ps.drop (i + 1))))) (show pick G none x = some x by unfold pick; rw [if_pos ⟨hg, rfl⟩])))
                              clear hstep
                              go_wp2
                              go_roundw
                              case rel => exact ⟨q + 1, some x, by go_num, by omega, rfl, hstep2, by rw [hg] at Hset; exact Lib.hid (by simp only [bestVals1, entVals, Option.getD_some, hg]; exact Hset.out), by rw [hg] at Hbt; exact Hbt.out⟩
                              case measure => simp [intOf]; omega
                            | some y =>
                              subst hst
                              simp only [Option.getD_some] at e0 e1 e2
                              by_cases hlb : y.bal < x.bal
                              · have hstep2 := Lib.hid (hstep.trans (congrArg (fun s => greatFrom G s (restOf p (q + 1) (flat (ps.drop (i + 1))))) (show pick G (some y) x = some x by unfold pick; rw [if_pos ⟨hg, by simp [better, hlb]⟩])))
                                clear hstep
                                go_wp2
                                go_roundw
                                case rel => exact ⟨q + 1, some x, by go_num, by omega, rfl, hstep2, by rw [hg] at Hset; exact Lib.hid (by simp only [bestVals1, entVals, Option.getD_some, hg]; exact Hset.out), by rw [hg] at Hbt; exact Hbt.out⟩
                                case measure => simp [intOf]; omega
                              · have hstep2 := Lib.hid (hstep.trans (congrArg (fun s => greatFrom G s (restOf p (q + 1) (flat (ps.drop (i + 1))))) (show pick G (some y) x = some y by unfold pick; rw [if_neg (fun h => hlb (by simpa [better] using h.2))])))
                                clear hstep
                                go_wp2
                                go_roundw
                                case rel => exact ⟨q + 1, some y, by go_num, by omega, rfl, hstep2, by rw [hg] at hBx; exact hBx, by rw [hg] at Hbx; exact Hbx.out⟩
                                case measure => simp [intOf]; omega
                          · have hstep2 := Lib.hid (hstep.trans (congrArg (fun s => greatFrom G s (restOf p (q + 1) (flat (ps.drop (i + 1))))) (show pick G st x = st by unfold pick; rw [if_neg (fun h => hg h.1)])))
                            obtain ⟨s0, hs0⟩ : ∃ s0 : Bool, s0 = st.isSome := ⟨_, rfl⟩
                            rw [← hs0]
                            have Hs0 := Lib.hid hs0
                            clear hs0 hstep e0 e1 e2
                            go_wp2
                            go_roundw
                            case rel => exact ⟨q + 1, st, by go_num, by omega, by rw [Hs0.out], hstep2, hBx, Hbx.out⟩
                            case measure => simp [intOf]; omega
                        · have hend := hko.out
                          rw [rest_end p q _ (by omega)] at hend
                          have Hend := Lib.hid hend
                          obtain ⟨s0, hs0⟩ : ∃ s0 : Bool, s0 = st.isSome := ⟨_, rfl⟩
                          rw [← hs0]
                          have Hs0 := Lib.hid hs0
                          clear hs0 hend
                          go_wp2
                          go_roundw
                          case rel => exact ⟨i + 1, st, by go_num, by omega, by rw [Hs0.out], Hend, HB3, hbw3⟩
                          case measure => simp [intOf]; omega
                    · have he := hk.out
                      rw [List.drop_eq_nil_of_le (by omega)] at he
                      have hgr : greatOf ps G = st := he
                      have hstep := Hstep.out
                      rw [hgr] at hstep
                      have hown5 := ownsRow_below hown3.out hbr
                      have hbt := hb3.trans (hbr.mono hb3.size)
                      clear he hgr Hstep hk
                      cases st with
                      | none =>
                        have he := Lib.hid (show againOf ps = L2 from hstep.trans (List.append_nil _))
                        have Hown5 := Lib.hid hown5
                        clear hstep hown5
                        go_wp2_with fail
                        refine bodyPost_ret (results_tmp4 rfl _ _ _) rfl ?_
                        refine ⟨_, _, by simp only [HFo.out, Hta.out]; rfl, ?_, ?_, hbw.trans (hbt.mono hbw.size)⟩
                        · rw [HL1.out]; exact ownsRow_below hown.out hbt
                        · rw [he.out]; exact row_base Hown5.out hbw.size
                      | some x =>
                        have Hst := Lib.hid (show againOf ps = (L2 ++ [x]) ++ againFrom ps (16 - (j + 1)) (b + ((j + 1 : Nat) : Int)) by rw [hstep, List.append_assoc]; rfl)
                        have e0 := HB.out.cell 0
                        have e1 := HB.out.cell 1
                        have e2 := HB.out.cell 2
                        simp only [bestVals1, entVals, Option.getD_some, List.getElem?_cons_succ, List.getElem?_cons_zero] at e0 e1 e2
                        clear hstep
                        go_wp2_with (at_builtin; refine append_at rfl _ _ 42 rfl w2.heap.size 50 3 32 Try.underlying42 _ info_entry rfl (by decide) _ _ _ rfl hown5 _ rfl [.int .i64 x.gen, .int .i64 x.bal, .string x.mark] rfl rfl (by simp [Value.oneCell']) ?c1 ?c2 ?c3 ?_)
                        case c1 => unfold maxLen; omega
                        case c2 => omega
                        case c3 => exact hbt.size
                        intro v' w8 hown6 hb8
                        have Hown6 : Hid (w8.ownsRow w2.heap.size 50 3 v' (L2 ++ [x]).length (entsVals (L2 ++ [x]))) := by
                          show w8.ownsRow w2.heap.size 50 3 v' (L2 ++ [x]).length _
                          rw [entsVals_snoc, List.length_append]
                          exact hown6
                        clear hown6 hown5
                        go_wp2
                        go_roundw
                        case rel => exact ⟨j + 1, L2 ++ [x], by rw [← HGi.out], by omega, by simp; omega, Hst, Hown6, hbt.trans hb8⟩
                        case measure => simp [intOf]; have := HGm.out; omega
                · obtain rfl : j = 16 := by omega
                  have he := Lib.hid (show againOf ps = L2 by rw [hc2.out, Nat.sub_self, againFrom, List.append_nil])
                  clear hc2
                  go_wp2_with fail
                  refine bodyPost_ret (results_tmp4 rfl _ _ _) rfl ?_
                  refine ⟨_, _, by simp only [HFo.out, Hta.out]; rfl, ?_, ?_, hbw.trans (hb3.mono hbw.size)⟩
                  · rw [HL1.out]; exact ownsRow_below hown.out hb3
                  · rw [he.out]; exact row_base hown3.out hbw.size
end Go.Proofs.Ytcbanjejojgncaa
