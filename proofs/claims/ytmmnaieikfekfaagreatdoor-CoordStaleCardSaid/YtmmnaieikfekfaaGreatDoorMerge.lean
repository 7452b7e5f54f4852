/- The walk of plan.Merge. Condition: the promises' tops are at most 2^61. -/
import Derived.Test.YtmmnaieikfekfaaGreatDoorEnts
import Derived.Test.YtmmnaieikfekfaaGreatDoorKit2
import Derived.Lib.MinMax
namespace Go.Proofs.YtmmnaieikfekfaaGreatDoor
open Go.RowKit

theorem info_entry : (Tryz.prog.info? 118).map (fun i => (i.zero, i.size, i.bytes)) = some (some (entAgg zEnt), 3, 32) := by kernel_rfl

def floorFrom (a : Int) (ps : List Prom) : Int := ps.foldl (fun a p => max a p.floor) a
def topFrom (a : Int) (ps : List Prom) : Int := ps.foldl (fun a p => max a p.top) a
def topOf (ps : List Prom) : Int := topFrom 0 ps
def floorOf (ps : List Prom) : Int := min (floorFrom 0 ps) (topOf ps)
def chosenFrom (ps : List Prom) : Nat → Int → List Ent
  | 0, _ => []
  | n + 1, g => (match knownOf ps g with | some m => [⟨g, 0, m⟩] | none => []) ++ chosenFrom ps n (g + 1)
def againFrom (ps : List Prom) : Nat → Int → List Ent
  | 0, _ => []
  | n + 1, g => match greatOf ps g with | some x => x :: againFrom ps n (g + 1) | none => []
def chosenOf (ps : List Prom) : List Ent := chosenFrom ps (min (topOf ps - floorOf ps).toNat 64) (floorOf ps)
def againOf (ps : List Prom) : List Ent := againFrom ps 16 (topOf ps)

theorem topFrom_le {a : Int} {ps : List Prom} {B : Int} (ha : a ≤ B) (h : ∀ p ∈ ps, p.top ≤ B) : topFrom a ps ≤ B := by
  induction ps generalizing a with
  | nil => exact ha
  | cons p ps ih =>
    have := h p List.mem_cons_self
    exact ih (a := max a p.top) (by omega) (fun q hq => h q (List.mem_cons_of_mem _ hq))
theorem topFrom_ge (a : Int) (ps : List Prom) : a ≤ topFrom a ps := by
  induction ps generalizing a with
  | nil => exact Int.le_refl _
  | cons p ps ih => exact Int.le_trans (by omega) (ih (max a p.top))
theorem floorFrom_ge (a : Int) (ps : List Prom) : a ≤ floorFrom a ps := by
  induction ps generalizing a with
  | nil => exact Int.le_refl _
  | cons p ps ih => exact Int.le_trans (by omega) (ih (max a p.floor))
theorem drop_step {α : Type} (ps : List α) (i : Nat) (hi : i < ps.length) : ps.drop i = ps[i] :: ps.drop (i + 1) := List.drop_eq_getElem_cons hi
theorem entsVals_snoc (l : List Ent) (x : Ent) : entsVals (l ++ [x]) = entsVals l ++ entVals x := by simp [entsVals]
theorem chosenFrom_le (ps : List Prom) (n : Nat) (g : Int) : (chosenFrom ps n g).length ≤ n := by
  induction n generalizing g with
  | zero => exact Nat.le_refl _
  | succ n ih =>
    have := ih (g + 1)
    unfold chosenFrom
    rw [List.length_append]
    split
    · simp; omega
    · simp; omega
theorem againFrom_le (ps : List Prom) (n : Nat) (g : Int) : (againFrom ps n g).length ≤ n := by
  induction n generalizing g with
  | zero => exact Nat.le_refl _
  | succ n ih =>
    have := ih (g + 1)
    unfold againFrom
    split
    · simp; omega
    · simp

def MergeSays (ps : List Prom) (w : World) (e : Ending) (w' : World) : Prop :=
  ∃ v1 v2, e = .returned (.tuple #[.int .i64 (floorOf ps), .int .i64 (topOf ps), v1, v2]) ∧ w'.ownsRow w.heap.size 118 3 v1 (chosenOf ps).length (entsVals (chosenOf ps)) ∧ w'.ownsRow w.heap.size 118 3 v2 (againOf ps).length (entsVals (againOf ps)) ∧ Below w.heap.size w w'

set_option maxRecDepth 100000 in
set_option maxHeartbeats 4000000 in
theorem merge_any (ad : Option Addr) (cap : Nat) (ps : List Prom) (w : World) (hl : ps.length ≤ 1000000) (hll : ∀ p ∈ ps, p.list.length ≤ 1000000) (ht : ∀ p ∈ ps, p.top ≤ 2305843009213693952) (h : PromsAt w ad ps) :
    Calls Tryz.prog 78 #[.slice ad ps.length cap] w (MergeSays ps w) := by
  have H := Lib.hid h
  have Hll := Lib.hid hll
  have Ht := Lib.hid ht
  clear h hll ht
  go_enter Tryz.func78, Tryz.ntmps78
  go_wp2
  go_loopw [2, 3, 16] (fun f t i wr => ∃ (k : Nat) (a b : Int), i = .int .i64 k ∧ k ≤ ps.length ∧ f = .int .i64 a ∧ t = .int .i64 b ∧ Hid (floorFrom 0 ps = floorFrom a (ps.drop k)) ∧ Hid (topOf ps = topFrom b (ps.drop k)) ∧ 0 ≤ a ∧ 0 ≤ b ∧ b ≤ 2305843009213693952 ∧ Below w.heap.size w wr) (fun _ _ i _ => ps.length - (intOf i).toNat)
  case atStart => exact ⟨0, 0, 0, rfl, Nat.zero_le _, rfl, rfl, Lib.hid rfl, Lib.hid rfl, by omega, by omega, by omega, Below.refl _ _⟩
  case round =>
    obtain ⟨i, a, b, rfl, hi, rfl, rfl, ha, hb, ha0, hb0, hb1, hbr⟩ := hrel
    by_cases hlt : i < ps.length
    · obtain ⟨bl, off, la, lc, rfl, hbs, c0, c1, c2, _⟩ := promsAt_get H.out i hlt
      replace c0 := (hbr.cell (p := ⟨bl, off + i * 3, none⟩) hbs).trans c0
      replace c1 := (hbr.cell (p := ⟨bl, off + i * 3 + 1, none⟩) hbs).trans c1
      replace c2 := (hbr.cell (p := ⟨bl, off + i * 3 + 2, none⟩) hbs).trans c2
      have hps := Lib.hid (drop_step ps i hlt)
      have htp := Ht.out _ (List.getElem_mem hlt)
      obtain ⟨p, hp⟩ : ∃ p, p = ps[i] := ⟨_, rfl⟩
      rw [← hp] at c0 c1 c2 hps htp
      have Ha := Lib.hid (show floorFrom 0 ps = floorFrom (max a p.floor) (ps.drop (i + 1)) by rw [ha.out, hps.out]; rfl)
      have Hb := Lib.hid (show topOf ps = topFrom (max b p.top) (ps.drop (i + 1)) by rw [hb.out, hps.out]; rfl)
      clear hp hps
      have hbr2 := hbr.alloc hbr.size (.cells #[.int .i64 p.floor, .int .i64 p.top, .slice la p.list.length lc] 136)
      go_wp2
      go_quiet (fail)
      go_wp2
      go_roundw
      case rel => exact ⟨i + 1, max a p.floor, max b p.top, by go_num, by omega, rfl, rfl, Ha, Hb, by omega, by omega, by omega, below_drewN hbr2 _⟩
      case measure => simp [intOf]; omega
    · have hi' : i = ps.length := by omega
      subst hi'
      have hfa : floorFrom 0 ps = a := by rw [ha.out, List.drop_length]; rfl
      have hta : topOf ps = b := by rw [hb.out, List.drop_length]; rfl
      obtain ⟨F, hF⟩ : ∃ F, F = min a b := ⟨_, rfl⟩
      have hFo : floorOf ps = F := by unfold floorOf; rw [hfa, hta, hF]
      obtain ⟨n, hn⟩ : ∃ n, n = min (b - F).toNat 64 := ⟨_, rfl⟩
      have hch := Lib.hid (show chosenOf ps = [] ++ chosenFrom ps n F by unfold chosenOf; rw [hFo, hta, ← hn]; rfl)
      have hF0 : 0 ≤ F := by omega
      have hFb : F ≤ b := by omega
      have hnF : F + (n : Int) ≤ b := by omega
      have hn64 : n ≤ 64 := by omega
      have hnd : (n : Int) < 64 → F + (n : Int) = b := by omega
      have HFo := Lib.hid hFo
      have Hta := Lib.hid hta
      have HF := Lib.hid hF
      clear hfa hta hFo hF hn ha hb hlt hi
      obtain ⟨wo, rfl⟩ : ∃ wo : World, wo = wr := ⟨_, rfl⟩
      go_wp2
      rw [← HF.out]
      go_loopw [4, 8] (fun v g wr => ∃ (k : Nat) (L : List Ent), g = .int .i64 (F + (k : Int)) ∧ k ≤ n ∧ L.length ≤ k ∧ Hid (chosenOf ps = L ++ chosenFrom ps (n - k) (F + (k : Int))) ∧ Hid (wr.ownsRow w.heap.size 118 3 v L.length (entsVals L)) ∧ Below w.heap.size w wr) (fun _ g _ => (F + (n : Int) - intOf g).toNat)
      case atStart => exact ⟨0, [], by simp, Nat.zero_le _, Nat.le_refl _, by simpa using hch, Lib.hid (World.ownsRow_nil _ _ _ _), hbr⟩
      case round =>
        obtain ⟨k, L, rfl, hk, hL, hc, hown, hbw⟩ := hrel
        by_cases hlt : k < n
        · have h1 : F + (k : Int) < b := by omega
          have h2 : F + (k : Int) - F < 64 := by omega
          obtain ⟨r, hr⟩ : ∃ r, n - k = r + 1 := ⟨n - k - 1, by omega⟩
          have hstep := hc.out
          rw [hr, chosenFrom] at hstep
          have hr2 : n - (k + 1) = r := by omega
          have hg2 : F + (k : Int) + 1 = F + ((k + 1 : Nat) : Int) := by omega
          rw [← hr2, hg2] at hstep
          have hpw := Lib.hid (promsAt_below H.out hbw)
          clear hr hr2 hg2 hc
          go_wp2_with fail
          refine (known_any ad cap ps (F + (k : Int)) _ hl Hll.out hpw.out).mono ?_
          rintro e w1 ⟨rfl, hb1⟩
          have hown1 := Lib.hid (ownsRow_below hown.out hb1)
          have hbw1 := below_step hbw hb1
          clear hb1 hown hbw hpw
          cases hkn : knownOf ps (F + (k : Int)) with
          | none =>
            rw [hkn] at hstep
            have Hstep := Lib.hid (show chosenOf ps = L ++ chosenFrom ps (n - (k + 1)) (F + ((k + 1 : Nat) : Int)) from hstep)
            clear hstep hkn
            simp only [knownAgg]
            have hb2 := hbw1.alloc hbw1.size (.cells #[.int .i64 0, .int .i64 0, .string ⟨#[]⟩] 118)
            have hown2 := Lib.hid (hown1.out.alloc (.cells #[.int .i64 0, .int .i64 0, .string ⟨#[]⟩] 118))
            go_wp2_with fail
            go_roundw
            case rel => exact ⟨k + 1, L, by go_num, by omega, by omega, Hstep, hown2, hb2⟩
            case measure => simp [intOf]; omega
          | some m =>
            rw [hkn] at hstep
            have Hstep := Lib.hid (show chosenOf ps = (L ++ [(⟨F + (k : Int), 0, m⟩ : Ent)]) ++ chosenFrom ps (n - (k + 1)) (F + ((k + 1 : Nat) : Int)) by rw [hstep, List.append_assoc])
            clear hstep hkn
            simp only [knownAgg]
            have hb2 := hbw1.alloc hbw1.size (.cells #[.int .i64 (F + (k : Int)), .int .i64 0, .string m] 118)
            have hown2 := hown1.out.alloc (.cells #[.int .i64 (F + (k : Int)), .int .i64 0, .string m] 118)
            have hL64 : L.length ≤ 64 := by omega
            go_wp2_with (at_builtin; refine append_at rfl _ _ 59 rfl w.heap.size 118 3 32 Tryz.underlying59 _ info_entry rfl (by decide) _ _ _ rfl hown2 _ (by simp) [.int .i64 (F + (k : Int)), .int .i64 0, .string m] rfl rfl (by simp [Value.oneCell']) ?c1 ?c2 ?c3 ?_)
            case c1 => unfold maxLen; omega
            case c2 => omega
            case c3 => exact hb2.size
            intro v' w3 hown3 hb3
            have Hown3 : Hid (w3.ownsRow w.heap.size 118 3 v' (L ++ [(⟨F + (k : Int), 0, m⟩ : Ent)]).length (entsVals (L ++ [(⟨F + (k : Int), 0, m⟩ : Ent)]))) := by
              show w3.ownsRow w.heap.size 118 3 v' (L ++ [(⟨F + (k : Int), 0, m⟩ : Ent)]).length _
              rw [entsVals_snoc, List.length_append]
              exact hown3
            clear hown3 hown2 hown1
            go_wp2
            go_roundw
            case rel => exact ⟨k + 1, L ++ [(⟨F + (k : Int), 0, m⟩ : Ent)], by go_num, by omega, by simp; omega, Hstep, Hown3, hb2.trans hb3⟩
            case measure => simp [intOf]; omega
        · obtain rfl : k = n := by omega
          have hLe := hc.out
          rw [Nat.sub_self, chosenFrom, List.append_nil] at hLe
          have HL1 := Lib.hid hLe
          have hL64 : L.length ≤ 64 := by omega
          have hag := Lib.hid (show againOf ps = [] ++ againFrom ps (16 - 0) (b + ((0 : Nat) : Int)) by unfold againOf; rw [Hta.out]; simp)
          have hpw := Lib.hid (promsAt_below H.out hbw)
          clear hLe hc hlt H
          obtain ⟨w2, rfl⟩ : ∃ w2 : World, w2 = wr := ⟨_, rfl⟩
          have hcase : F + (k : Int) < b ∧ 64 ≤ (k : Int) ∨ b ≤ F + (k : Int) := by omega
          rcases hcase with ⟨hx1, hx2⟩ | hx1
          all_goals
            go_wp2_with fail
            go_loopw [5, 11] (fun v g wr => ∃ (j : Nat) (L2 : List Ent), g = .int .i64 (b + (j : Int)) ∧ j ≤ 16 ∧ L2.length ≤ j ∧ Hid (againOf ps = L2 ++ againFrom ps (16 - j) (b + (j : Int))) ∧ Hid (wr.ownsRow w2.heap.size 118 3 v L2.length (entsVals L2)) ∧ Below w2.heap.size w2 wr) (fun _ g _ => (b + 16 - intOf g).toNat)
            case atStart => exact ⟨0, [], by simp, Nat.zero_le _, Nat.le_refl _, hag, Lib.hid (World.ownsRow_nil _ _ _ _), Below.refl _ _⟩
            case round =>
              obtain ⟨j, L2, rfl, hj, hL2, hc2, hown3, hb3⟩ := hrel
              by_cases hlt : j < 16
              · obtain ⟨r, hr⟩ : ∃ r, 16 - j = r + 1 := ⟨16 - j - 1, by omega⟩
                have hstep := hc2.out
                rw [hr, againFrom] at hstep
                have hr2 : 16 - (j + 1) = r := by omega
                have hg2 : b + (j : Int) + 1 = b + ((j + 1 : Nat) : Int) := by omega
                rw [← hr2, hg2] at hstep
                have hpw3 := Lib.hid (promsAt_below hpw.out hb3)
                clear hr hr2 hg2 hc2
                go_wp2_with fail
                refine (greatest_any ad cap ps (b + (j : Int)) _ hl Hll.out hpw3.out).mono ?_
                rintro e w4 ⟨rfl, hb4⟩
                have hown4 := Lib.hid (ownsRow_below hown3.out hb4)
                have hb04 := below_step hb3 hb4
                clear hb4 hown3 hb3 hpw3
                cases hkn : greatOf ps (b + (j : Int)) with
                | none =>
                  rw [hkn] at hstep
                  have he : Hid (againOf ps = L2) := Lib.hid (hstep.trans (List.append_nil _))
                  clear hstep hkn
                  simp only [greatAgg, entAgg, zEnt, Option.getD_none, Option.isSome_none]
                  have hb5 := hb04.alloc hb04.size (.cells #[.int .i64 0, .int .i64 0, .string ⟨#[]⟩] 118)
                  have hown5 := Lib.hid (hown4.out.alloc (.cells #[.int .i64 0, .int .i64 0, .string ⟨#[]⟩] 118))
                  go_wp2_with fail
                  refine bodyPost_ret (results_tmp4 rfl _ _ _) rfl ?_
                  refine ⟨_, _, by simp only [HFo.out, Hta.out]; rfl, ?_, ?_, hbw.trans (hb5.mono hbw.size)⟩
                  · rw [HL1.out]; exact ownsRow_below hown.out hb5
                  · rw [he.out]; exact row_base hown5.out hbw.size
                | some x =>
                  rw [hkn] at hstep
                  have Hstep := Lib.hid (show againOf ps = (L2 ++ [x]) ++ againFrom ps (16 - (j + 1)) (b + ((j + 1 : Nat) : Int)) by rw [hstep, List.append_assoc]; rfl)
                  clear hstep hkn
                  simp only [greatAgg, entAgg, Option.getD_some, Option.isSome_some]
                  have hb5 := hb04.alloc hb04.size (.cells #[.int .i64 x.gen, .int .i64 x.bal, .string x.mark] 118)
                  have hown5 := hown4.out.alloc (.cells #[.int .i64 x.gen, .int .i64 x.bal, .string x.mark] 118)
                  go_wp2_with (at_builtin; refine append_at rfl _ _ 59 rfl w2.heap.size 118 3 32 Tryz.underlying59 _ info_entry rfl (by decide) _ _ _ rfl hown5 _ (by simp) [.int .i64 x.gen, .int .i64 x.bal, .string x.mark] rfl rfl (by simp [Value.oneCell']) ?c1 ?c2 ?c3 ?_)
                  case c1 => unfold maxLen; omega
                  case c2 => omega
                  case c3 => exact hb5.size
                  intro v' w6 hown6 hb6
                  have Hown6 : Hid (w6.ownsRow w2.heap.size 118 3 v' (L2 ++ [x]).length (entsVals (L2 ++ [x]))) := by
                    show w6.ownsRow w2.heap.size 118 3 v' (L2 ++ [x]).length _
                    rw [entsVals_snoc, List.length_append]
                    exact hown6
                  clear hown6 hown5 hown4
                  go_wp2
                  go_roundw
                  case rel => exact ⟨j + 1, L2 ++ [x], by go_num, by omega, by simp; omega, Hstep, Hown6, hb5.trans hb6⟩
                  case measure => simp [intOf]; omega
              · obtain rfl : j = 16 := by omega
                have he := Lib.hid (show againOf ps = L2 by rw [hc2.out, Nat.sub_self, againFrom, List.append_nil])
                clear hc2
                go_wp2_with fail
                refine bodyPost_ret (results_tmp4 rfl _ _ _) rfl ?_
                refine ⟨_, _, by simp only [HFo.out, Hta.out]; rfl, ?_, ?_, hbw.trans (hb3.mono hbw.size)⟩
                · rw [HL1.out]; exact ownsRow_below hown.out hb3
                · rw [he.out]; exact row_base hown3.out hbw.size
end Go.Proofs.YtmmnaieikfekfaaGreatDoor
