/- slices.SortStableFunc at a nil []int with NewTable's comparing closure: nothing happens. No condition. slices.BinarySearch at []int, weakly: some place of the row or its end, whatever the row's order. Condition: the sizes. (*sign.Table).Size, Block. No condition. -/
import Derived.Test.YtaemlplcjjbamaaGreatDoorBSort4
import Derived.Test.YtaemlplcjjbamaaGreatDoorBSign2
namespace Go.Proofs.YtaemlplcjjbamaaGreatDoor
open Go Go.RowKit
set_option linter.unusedVariables false
set_option maxRecDepth 100000 in
set_option maxHeartbeats 4000000 in
theorem stable_any (g n m q cp : Nat) (wf : Nat → Nat) (w : World) (h : RowIn w g n m) (hc : CmpAt g q m wf w) (hwf : ∀ j, wf j < 4294967296) (hm : m ≤ 1048576) (hn : n ≤ 1048576) :
    Calls Tryz.prog 204 #[.slice (some ⟨g, 0, none⟩) n cp, .int .i64 (n : Int), cmpFn q] w (SortSays g n m q wf w) := by
  have H := Lib.hid h
  have HC := Lib.hid hc
  have Hwf := Lib.hid hwf
  have Hm := Lib.hid hm
  clear h hc hwf hm
  go_enter Tryz.func204, Tryz.ntmps204
  go_upto_region 2 with fail
  go_loopw [7, 8] (fun av_ bv wr => ∃ a b : Nat, av_ = .int .i64 (a : Int) ∧ bv = .int .i64 (b : Int) ∧ b = a + 20 ∧ a ≤ n ∧ Hid (RowIn wr g n m) ∧ Hid (Touch (fun k => k = g) w wr)) (fun av_ _ _ => n + 1 - (intOf av_).toNat)
  case atStart => exact ⟨0, 20, rfl, rfl, rfl, Nat.zero_le _, H, Lib.hid (Touch.refl _ _)⟩
  case round =>
    obtain ⟨a, b, rfl, rfl, hb, ha, HR, HT⟩ := hrel
    clear H
    have hbb : b ≤ 2097152 := by omega
    have Hb := Lib.hid hb
    have hab : a ≤ b := by omega
    clear hb
    by_cases hbn : b ≤ n
    · have HS := Lib.hid (insertion_any g n m q cp a b wf wr HR.out (HC.out.touch HT.out) Hwf.out Hm.out hab hbn hn)
      go_wp2_with fail
      refine HS.out.mono ?_
      clear HS
      rintro ee w1 ⟨rfl, hR1, hT1⟩
      have HR1 := Lib.hid hR1
      have HT1 := Lib.hid (HT.out.trans hT1)
      clear hR1 hT1 HR HT
      go_wp2_with fail
      go_roundw
      case rel => exact ⟨b, b + 20, rfl, by go_num, rfl, hbn, HR1, HT1⟩
      case measure => have := Hb.out; simp [intOf]; omega
    · have HS := Lib.hid (insertion_any g n m q cp a n wf wr HR.out (HC.out.touch HT.out) Hwf.out Hm.out (by omega) (Nat.le_refl _) hn)
      go_wp2_with fail
      refine HS.out.mono ?_
      clear HS
      rintro ee w1 ⟨rfl, hR1, hT1⟩
      have HR1 := Lib.hid hR1
      have HT1 := Lib.hid (HT.out.trans hT1)
      clear hR1 hT1 HR HT
      go_upto_region 7 with fail
      go_loopw [6] (fun sv_ wr => ∃ s : Nat, sv_ = .int .i64 (s : Int) ∧ 20 ≤ s ∧ s ≤ 2 * n + 20 ∧ Hid (RowIn wr g n m) ∧ Hid (Touch (fun k => k = g) w wr)) (fun sv_ _ => n - (intOf sv_).toNat)
      case atStart => exact ⟨20, rfl, Nat.le_refl _, by omega, HR1, HT1⟩
      case round =>
        obtain ⟨s, rfl, hs1, hs2, HR2, HT2⟩ := hrel
        by_cases hsn : s < n
        · go_upto_region 9 with fail
          go_loopw [7, 8] (fun av_ bv wr => ∃ a b : Nat, av_ = .int .i64 (a : Int) ∧ bv = .int .i64 (b : Int) ∧ b = a + 2 * s ∧ a ≤ n ∧ Hid (RowIn wr g n m) ∧ Hid (Touch (fun k => k = g) w wr)) (fun av_ _ _ => n + 1 - (intOf av_).toNat)
          case atStart => exact ⟨0, 2 * s, rfl, by go_num, by omega, Nat.zero_le _, HR2, HT2⟩
          case round =>
            obtain ⟨a', b', rfl, rfl, hb', ha', HR3, HT3⟩ := hrel
            obtain ⟨c, hc⟩ : ∃ c, c = a' + s := ⟨_, rfl⟩
            have i1 : (a' : Int) + (s : Int) = (c : Int) := by omega
            have hbb' : b' ≤ 16777216 := by omega
            have Hb' := Lib.hid (show b' = a' + 2 * s from hb')
            have i2 : a' < c := by omega
            have i3 : c < b' := by omega
            have hcc : c ≤ 16777216 := by omega
            clear hb' hc
            by_cases hbn' : b' ≤ n
            · have HS := Lib.hid (symMerge_any g n m q cp wf Hwf.out Hm.out hn (b' - a' + 1) a' c b' _ (by omega) HR3.out (HC.out.touch HT3.out) i2 i3 hbn')
              go_wp2_with fail
              refine HS.out.mono ?_
              clear HS
              rintro ee w4 ⟨rfl, hR4, hT4⟩
              have HR4 := Lib.hid hR4
              have HT4 := Lib.hid (HT3.out.trans hT4)
              clear hR4 hT4 HR3 HT3
              go_wp2_with fail
              go_roundw
              case rel => exact ⟨b', b' + 2 * s, rfl, by go_num, rfl, hbn', HR4, HT4⟩
              case measure => have := Hb'.out; simp [intOf]; omega
            · by_cases hcn : c < n
              · have HS := Lib.hid (symMerge_any g n m q cp wf Hwf.out Hm.out hn (n - a' + 1) a' c n _ (by omega) HR3.out (HC.out.touch HT3.out) i2 hcn (Nat.le_refl _))
                go_wp2_with fail
                refine HS.out.mono ?_
                clear HS
                rintro ee w4 ⟨rfl, hR4, hT4⟩
                have HR4 := Lib.hid hR4
                have HT4 := Lib.hid (HT3.out.trans hT4)
                clear hR4 hT4 HR3 HT3
                go_wp2_with fail
                go_roundw
                case rel => exact ⟨s * 2, by go_num, by omega, by omega, HR4, HT4⟩
                case measure => simp [intOf]; omega
              · go_wp2_with fail
                go_roundw
                case rel => exact ⟨s * 2, by go_num, by omega, by omega, HR3, HT3⟩
                case measure => simp [intOf]; omega
        · go_wp2_with fail
          go_end0
          exact ⟨rfl, HR2.out, HT2.out⟩
set_option maxRecDepth 100000 in
theorem sortStable_any (g n m q cp : Nat) (wf : Nat → Nat) (w : World) (h : RowIn w g n m) (hc : CmpAt g q m wf w) (hwf : ∀ j, wf j < 4294967296) (hm : m ≤ 1048576) (hn : n ≤ 1048576) :
    Calls Tryz.prog 194 #[.slice (some ⟨g, 0, none⟩) n cp, cmpFn q] w (SortSays g n m q wf w) := by
  have HS := Lib.hid (stable_any g n m q cp wf w h hc hwf hm hn)
  clear h hc hwf hm
  go_enter Tryz.func194, Tryz.ntmps194
  go_wp2_with fail
  refine HS.out.mono ?_
  clear HS
  rintro ee w1 ⟨rfl, hR1, hT1⟩
  have HR1 := Lib.hid hR1
  have HT1 := Lib.hid hT1
  clear hR1 hT1
  go_wp2_with fail
  go_end0
  exact ⟨rfl, HR1.out, HT1.out⟩
end Go.Proofs.YtaemlplcjjbamaaGreatDoor
namespace Go.Proofs.YtaemlplcjjbamaaGreatDoor
open Go Go.RowKit
set_option linter.unusedVariables false
def NilSays (w : World) (e : Ending) (w' : World) : Prop := e = .returned (.tuple #[]) ∧ Below w.heap.size w w'
set_option maxRecDepth 100000 in
theorem insertNil_any (q : Nat) (w : World) :
    Calls Tryz.prog 211 #[.slice none 0 0, .int .i64 0, .int .i64 0, cmpFn q] w (NilSays w) := by
  unfold cmpFn
  go_enter Tryz.func211, Tryz.ntmps211
  go_wp2
  go_loopw [8] (fun iv_ wr => iv_ = .int .i64 1 ∧ wr = w) (fun iv_ _ => 0)
  case atStart => exact ⟨rfl, rfl⟩
  case round =>
    obtain ⟨rfl, rfl⟩ := hrel
    go_wp2
    go_end0
    exact ⟨rfl, Below.refl _ _⟩
set_option maxRecDepth 100000 in
theorem stableNil_any (q : Nat) (w : World) :
    Calls Tryz.prog 204 #[.slice none 0 0, .int .i64 0, cmpFn q] w (NilSays w) := by
  have HI := Lib.hid (fun w' => insertNil_any q w')
  go_enter Tryz.func204, Tryz.ntmps204
  go_upto_region 2 with fail
  go_loopw [7, 8] (fun av_ bv wr => av_ = .int .i64 0 ∧ bv = .int .i64 20 ∧ wr = w) (fun av_ _ _ => 0)
  case atStart => exact ⟨rfl, rfl, rfl⟩
  case round =>
    obtain ⟨rfl, rfl, rfl⟩ := hrel
    go_wp2_with fail
    refine (HI.out _).mono ?_
    rintro ee w1 ⟨rfl, hb1⟩
    have HB1 := Lib.hid hb1
    clear hb1
    go_upto_region 7 with fail
    go_loopw [6] (fun sv_ wr => sv_ = .int .i64 20 ∧ wr = w1) (fun _ _ => 0)
    case atStart => exact ⟨rfl, rfl⟩
    case round =>
      obtain ⟨rfl, rfl⟩ := hrel
      go_wp2_with fail
      go_end0
      exact ⟨rfl, HB1.out⟩
theorem sortNil_any (q : Nat) (w : World) :
    Calls Tryz.prog 194 #[.slice none 0 0, cmpFn q] w (NilSays w) := by
  have HS := Lib.hid (stableNil_any q w)
  go_enter Tryz.func194, Tryz.ntmps194
  go_wp2_with fail
  refine HS.out.mono ?_
  clear HS
  rintro ee w1 ⟨rfl, hb1⟩
  go_wp2_with fail
  go_end0
  exact ⟨rfl, hb1⟩
end Go.Proofs.YtaemlplcjjbamaaGreatDoor
namespace Go.Proofs.YtaemlplcjjbamaaGreatDoor
open Go Go.RowKit
set_option linter.unusedVariables false
/-- a row of numbers -/
def NumRow (w : World) (g n : Nat) (f : Nat → Nat) : Prop := ∀ j, j < n → w.cell? ⟨g, j, none⟩ = some (.int .i64 (f j : Int))
def BinSays (n : Nat) (w : World) (e : Ending) (w' : World) : Prop := ∃ (i : Nat) (b : Bool), e = .returned (.tuple #[.int .i64 (i : Int), .bool b]) ∧ i ≤ n ∧ w' = w
theorem isNaN_any (x : Nat) (w : World) : Calls Tryz.prog 169 #[.int .i64 (x : Int)] w fun e w' => e = .returned (.bool false) ∧ w' = w := by
  have h : ((x : Int) != (x : Int)) = false := by simp
  go_enter Tryz.func169, Tryz.ntmps169
  go_wp2
  go_ret
  exact ⟨by simp, rfl⟩
theorem isNaN2_any (x : Nat) (w : World) : Calls Tryz.prog 213 #[.int .i64 (x : Int)] w fun e w' => e = .returned (.bool false) ∧ w' = w := by
  have h : ((x : Int) != (x : Int)) = false := by simp
  go_enter Tryz.func213, Tryz.ntmps213
  go_wp2
  go_ret
  exact ⟨by simp, rfl⟩
set_option maxRecDepth 100000 in
theorem less_any (x y : Nat) (w : World) : Calls Tryz.prog 146 #[.int .i64 (x : Int), .int .i64 (y : Int)] w fun e w' => e = .returned (.bool (decide (x < y))) ∧ w' = w := by
  have H1 := Lib.hid (isNaN_any x w)
  go_enter Tryz.func146, Tryz.ntmps146
  go_wp2_with fail
  refine H1.out.mono ?_
  rintro e w1 ⟨rfl, rfl⟩
  go_wp2_with fail
  go_ret
  exact ⟨by simp, rfl⟩
set_option maxRecDepth 100000 in
set_option maxHeartbeats 4000000 in
theorem bin_any (g n cp x : Nat) (p : Option Addr) (f : Nat → Nat) (w : World) (h : NumRow w g n f) (hn : n ≤ 1048576) (hp : 0 < n → p = some ⟨g, 0, none⟩) :
    Calls Tryz.prog 205 #[.slice p n cp, .int .i64 (x : Int)] w (BinSays n w) := by
  have H := Lib.hid h
  have HL := Lib.hid (fun y w' => less_any y x w')
  have HP := Lib.hid hp
  clear h hp
  go_enter Tryz.func205, Tryz.ntmps205
  go_upto_region 3 with fail
  go_loopw [7, 8] (fun iv_ jv wr => ∃ i j : Nat, iv_ = .int .i64 (i : Int) ∧ jv = .int .i64 (j : Int) ∧ i ≤ j ∧ j ≤ n ∧ wr = w) (fun iv_ jv _ => (intOf jv).toNat - (intOf iv_).toNat)
  case atStart => exact ⟨0, n, rfl, rfl, Nat.zero_le _, Nat.le_refl _, rfl⟩
  case round =>
    obtain ⟨i, j, rfl, rfl, hij, hj, rfl⟩ := hrel
    by_cases hlt : i < j
    · obtain ⟨e, he⟩ : ∃ e, e = (i + j) / 2 := ⟨_, rfl⟩
      have he1 := half_lt hlt
      rw [← he] at he1
      obtain ⟨he1, he2⟩ := he1
      have hhalf : ((i : Int) + (j : Int)) / 2 = (e : Int) := by omega
      have hen : e < n := by omega
      clear he
      have e1 := H.out e hen
      have hp1 := HP.out (by omega)
      subst hp1
      generalize f e = y at e1
      go_wp2_with fail
      refine (HL.out y _).mono ?_
      rintro ee w1 ⟨rfl, rfl⟩
      by_cases hyx : y < x
      · rw [decide_eq_true hyx]
        go_wp2_with fail
        go_roundw
        case rel => exact ⟨e + 1, j, by go_num, rfl, by omega, hj, by trivial⟩
        case measure => simp [intOf]; omega
      · rw [decide_eq_false hyx]
        go_wp2_with fail
        go_roundw
        case rel => exact ⟨i, e, rfl, rfl, by omega, by omega, by trivial⟩
        case measure => simp [intOf]; omega
    · have hji : j = i := by omega
      subst hji
      by_cases hjn : j < n
      · have e1 := H.out j hjn
        have hp1 := HP.out (by omega)
        subst hp1
        generalize f j = y at e1
        have HI := Lib.hid (fun w' => isNaN2_any y w')
        by_cases hyx : y = x
        · subst hyx
          go_wp2_with fail
          go_ret2
          exact ⟨j, _, rfl, hj, rfl⟩
        · have hne : ((y : Int) == (x : Int)) = false := by rw [beq_eq_false_iff_ne]; omega
          go_wp2_with fail
          refine (HI.out _).mono ?_
          rintro ee w1 ⟨rfl, rfl⟩
          go_wp2_with fail
          go_ret2
          exact ⟨j, _, rfl, hj, rfl⟩
      · go_wp2_with fail
        go_ret2
        exact ⟨j, _, rfl, hj, rfl⟩
end Go.Proofs.YtaemlplcjjbamaaGreatDoor
namespace Go.Proofs.YtaemlplcjjbamaaGreatDoor
open Go Go.RowKit
set_option linter.unusedVariables false
/-- the table's two rows: m cells each -/
structure TabRows (q m gt gb : Nat) (tf bf : Nat → Nat) (w : World) : Prop where
  weak : ∃ p c, w.cell? ⟨q, 4, none⟩ = some (.slice p m c) ∧ (0 < m → p = some ⟨gt, 0, none⟩)
  block : ∃ p c, w.cell? ⟨q, 5, none⟩ = some (.slice p m c) ∧ (0 < m → p = some ⟨gb, 0, none⟩)
  rowW : NumRow w gt m tf
  rowB : NumRow w gb m bf
  lt : q < w.heap.size ∧ gt < w.heap.size ∧ gb < w.heap.size
theorem TabRows.touch {T : Nat → Prop} {q m gt gb : Nat} {tf bf : Nat → Nat} {w w' : World} (h : TabRows q m gt gb tf bf w) (ht : Touch T w w') (h1 : ¬ T q) (h2 : ¬ T gt) (h3 : ¬ T gb) : TabRows q m gt gb tf bf w' := by
  obtain ⟨⟨p, c, e1, e2⟩, ⟨p', c', e3, e4⟩, r1, r2, l1, l2, l3⟩ := h
  exact ⟨⟨p, c, (ht.cell (p := ⟨q, 4, none⟩) l1 h1).trans e1, e2⟩, ⟨p', c', (ht.cell (p := ⟨q, 5, none⟩) l1 h1).trans e3, e4⟩, fun j hj => (ht.cell (p := ⟨gt, j, none⟩) l2 h2).trans (r1 j hj), fun j hj => (ht.cell (p := ⟨gb, j, none⟩) l3 h3).trans (r2 j hj), Nat.lt_of_lt_of_le l1 ht.size, Nat.lt_of_lt_of_le l2 ht.size, Nat.lt_of_lt_of_le l3 ht.size⟩
def natVs (L : List Nat) : List Value := L.map fun z : Nat => .int .i64 (z : Int)
theorem natVs_snoc (L : List Nat) (z : Nat) : natVs (L ++ [z]) = natVs L ++ [.int .i64 (z : Int)] := by unfold natVs; rw [List.map_append]; rfl
def FindSays (m : Nat) (bf : Nat → Nat) (w : World) (e : Ending) (w' : World) : Prop := ∃ (v : Value) (L : List Nat), e = .returned v ∧ w'.ownsRow w.heap.size 3 1 v L.length (natVs L) ∧ (∀ z ∈ L, ∃ j, j < m ∧ bf j = z) ∧ L.length ≤ m ∧ Below w.heap.size w w'
set_option maxRecDepth 100000 in
set_option maxHeartbeats 4000000 in
theorem find_any (q m gt gb x : Nat) (tf bf : Nat → Nat) (w : World) (h : TabRows q m gt gb tf bf w) (hm : m ≤ 1048576) :
    Calls Tryz.prog 196 #[.pointer (some ⟨q, 0, none⟩), .int .i64 (x : Int)] w (FindSays m bf w) := by
  have H := Lib.hid h
  obtain ⟨⟨p, c, c4, hp⟩, ⟨p', c', c5, hp'⟩, r1, r2, l1, l2, l3⟩ := h
  have HB := Lib.hid (bin_any gt m c x p tf w r1 hm hp)
  have HP := Lib.hid hp
  have HP' := Lib.hid hp'
  have C4 := Lib.hid c4
  have C5 := Lib.hid c5
  have R1 := Lib.hid r1
  have R2 := Lib.hid r2
  clear hp hp' r1 r2 c5
  go_enter Tryz.func196, Tryz.ntmps196
  go_wp2_with fail
  refine HB.out.mono ?_
  clear HB c4
  rintro e w1 ⟨i0, b0, rfl, hi0, rfl⟩
  go_upto_region 5 with fail
  go_loopw [5, 7] (fun iv_ v wr => ∃ (i : Nat) (L : List Nat), iv_ = .int .i64 (i : Int) ∧ i ≤ m ∧ L.length ≤ i ∧ Hid (wr.ownsRow w1.heap.size 3 1 v L.length (natVs L)) ∧ Hid (∀ z ∈ L, ∃ j, j < m ∧ bf j = z) ∧ Hid (Below w1.heap.size w1 wr)) (fun iv_ _ _ => m - (intOf iv_).toNat)
  case atStart => exact ⟨i0, [], rfl, hi0, Nat.zero_le _, Lib.hid (World.ownsRow_nil _ _ _ _), Lib.hid (fun z hz => by cases hz), Lib.hid (Below.refl _ _)⟩
  case round =>
    obtain ⟨i, L, rfl, hi, hL, HW, HM, HBl⟩ := hrel
    have HTr := Lib.hid (Touch.of_below (S := fun _ => False) HBl.out)
    have c4 := (HTr.out.cell (p := ⟨q, 4, none⟩) l1 (fun h => h)).trans C4.out
    have c5 := (HTr.out.cell (p := ⟨q, 5, none⟩) l1 (fun h => h)).trans C5.out
    by_cases hlt : i < m
    · have hp1 := HP.out (by omega)
      have hp2 := HP'.out (by omega)
      subst hp1 hp2
      have d1 := (HTr.out.cell (p := ⟨gt, i, none⟩) l2 (fun h => h)).trans (R1.out i hlt)
      have d2 := (HTr.out.cell (p := ⟨gb, i, none⟩) l3 (fun h => h)).trans (R2.out i hlt)
      obtain ⟨z, hz⟩ : ∃ z, z = bf i := ⟨_, rfl⟩
      rw [← hz] at d2
      have Hz := Lib.hid hz
      clear hz
      generalize tf i = y at d1
      by_cases hyx : y = x
      · subst hyx
        have hown := HW.out
        go_wp2_with (at_builtin; refine append_one rfl _ _ 130 rfl w1.heap.size 3 1 8 Tryz.underlying130 _ info_int rfl (by decide) _ _ _ rfl hown [.int .i64 (z : Int)] rfl rfl (by simp [Value.oneCell']) ?c1 ?c2 ?c3 ?_)
        case c1 => unfold maxLen; omega
        case c2 => omega
        case c3 => exact HBl.out.size
        intro v' w3 hown3 hb3
        have HW3 := Lib.hid (show w3.ownsRow w1.heap.size 3 1 v' (L ++ [z]).length (natVs (L ++ [z])) by rw [natVs_snoc, List.length_append]; exact hown3)
        have HB3 := Lib.hid (HBl.out.trans hb3)
        clear hown3 hb3 hown
        go_wp2_with fail
        go_roundw
        case rel => exact ⟨i + 1, L ++ [z], by go_num, by omega, by rw [List.length_append]; simp; omega, HW3, Lib.hid (fun t ht => by
          rcases List.mem_append.1 ht with h | h
          · exact HM.out t h
          · exact ⟨i, hlt, by rw [← Hz.out]; exact (List.mem_singleton.1 h).symm⟩), HB3⟩
        case measure => simp [intOf]; omega
      · have hne : ((y : Int) == (x : Int)) = false := by rw [beq_eq_false_iff_ne]; omega
        go_wp2_with fail
        go_ret
        exact ⟨_, L, rfl, HW.out, HM.out, by omega, HBl.out⟩
    · go_wp2_with fail
      go_ret
      exact ⟨_, L, rfl, HW.out, HM.out, by omega, HBl.out⟩
end Go.Proofs.YtaemlplcjjbamaaGreatDoor
namespace Go.Proofs.YtaemlplcjjbamaaGreatDoor
open Go Go.RowKit
set_option linter.unusedVariables false
/-- the table's signature: block length, marks -/
structure TabSig (q bl gs nS : Nat) (sf : Nat → ByteArray) (w : World) : Prop where
  block : w.cell? ⟨q, 0, none⟩ = some (.int .i64 (bl : Int))
  strong : ∃ p c, w.cell? ⟨q, 3, none⟩ = some (.slice p nS c) ∧ (0 < nS → p = some ⟨gs, 0, none⟩)
  marks : ∀ j, j < nS → w.cell? ⟨gs, j, none⟩ = some (.string (sf j))
  lt : q < w.heap.size ∧ gs < w.heap.size
theorem TabSig.touch {T : Nat → Prop} {q bl gs nS : Nat} {sf : Nat → ByteArray} {w w' : World} (h : TabSig q bl gs nS sf w) (ht : Touch T w w') (h1 : ¬ T q) (h2 : ¬ T gs) : TabSig q bl gs nS sf w' := by
  obtain ⟨e1, ⟨p, c, e2, e2p⟩, e3, l1, l2⟩ := h
  exact ⟨(ht.cell (p := ⟨q, 0, none⟩) l1 h1).trans e1, ⟨p, c, (ht.cell (p := ⟨q, 3, none⟩) l1 h1).trans e2, e2p⟩, fun j hj => (ht.cell (p := ⟨gs, j, none⟩) l2 h2).trans (e3 j hj), Nat.lt_of_lt_of_le l1 ht.size, Nat.lt_of_lt_of_le l2 ht.size⟩
def MatchGood (m : Nat) (bf : Nat → Nat) (sf : Nat → ByteArray) (mk : ByteArray) (r : Int) : Prop := r = -1 ∨ ∃ j, j < m ∧ r = (bf j : Int) ∧ sf (bf j) = mk
def MatchSays (m bl : Nat) (bf : Nat → Nat) (sf : Nat → ByteArray) (k mb : Nat) (B : List ByteArray) (s : ByteArray) (w : World) (e : Ending) (w' : World) : Prop :=
  ∃ (r : Int), e = .returned (.int .i64 r) ∧ Touch (fun j => j = mb) w w' ∧ ((r = -1 ∧ BookIs w' k mb B) ∨ (s.size = bl ∧ BookIs w' k mb (seen B s) ∧ MatchGood m bf sf (markOf (seen B s) s) r))
set_option maxRecDepth 100000 in
set_option maxHeartbeats 4000000 in
theorem match_any (q m gt gb x bl gs nS k mb : Nat) (wn : Int) (tf bf : Nat → Nat) (sf : Nat → ByteArray) (B : List ByteArray) (s : ByteArray) (w : World) (h : TabRows q m gt gb tf bf w) (hS : TabSig q bl gs nS sf w) (hK : BookIs w k mb B) (hm : m ≤ 1048576) (hnS : nS ≤ 1048576) (hbf : ∀ j, j < m → bf j < nS) (hs : s.size ≤ maxLen) (hB : B.length ≤ 1000000000) (hne : k ≠ mb) (hq : q ≠ mb) (hgs : gs ≠ mb) :
    Calls Tryz.prog 177 #[.pointer (some ⟨q, 0, none⟩), .pointer (some ⟨k, 0, none⟩), .int .i64 (x : Int), .string s, .int .i64 wn] w (MatchSays m bl bf sf k mb B s w) := by
  have HF := Lib.hid (find_any q m gt gb x tf bf w h hm)
  have HS := Lib.hid hS
  have HK := Lib.hid hK
  have Hbf := Lib.hid hbf
  have Hhs := Lib.hid hs
  have HB := Lib.hid hB
  have Hne := Lib.hid hne
  have Hq := Lib.hid hq
  have Hgs := Lib.hid hgs
  clear h hS hK hbf hs hB hne hq hgs
  go_enter Tryz.func177, Tryz.ntmps177
  go_wp2_with fail
  refine HF.out.mono ?_
  clear HF
  rintro e w1 ⟨v, L, rfl, hrow, hmem, hlen, hbel⟩
  have HT1 := Lib.hid (Touch.of_below (S := fun j => j = mb) hbel)
  have HS1 := Lib.hid (HS.out.touch (Touch.of_below (S := fun _ => False) hbel) (fun h => h) (fun h => h))
  have HK1 := Lib.hid (HK.out.below hbel)
  have HR := Lib.hid hrow
  have HM := Lib.hid hmem
  obtain ⟨va, vc, rfl⟩ := row_shape hrow
  obtain ⟨ln, hln⟩ : ∃ ln, ln = L.length := ⟨_, rfl⟩
  rw [← hln] at hlen ⊢
  have Hln := Lib.hid hln
  clear hrow hmem hbel hln HS HK
  have c0 := HS1.out.block
  by_cases hl0 : ln = 0
  · subst hl0
    go_wp2_with fail
    go_ret
    exact ⟨-1, rfl, HT1.out, Or.inl ⟨rfl, HK1.out⟩⟩
  · have hl1 : ((ln : Int) == 0) = false := by rw [beq_eq_false_iff_ne]; omega
    obtain ⟨sz, hsz⟩ : ∃ sz, sz = s.size := ⟨_, rfl⟩
    have Hsz := Lib.hid hsz
    by_cases hsb : s.size = bl
    · have hsb' : ((s.size : Int) != (bl : Int)) = false := by rw [hsb]; simp
      have HMk := Lib.hid (mark_any k mb B s w1 HK1.out Hhs.out HB.out Hne.out)
      have Hsb := Lib.hid hsb
      clear hsb hsz
      go_wp2_with fail
      refine HMk.out.mono ?_
      clear HMk
      rintro e w2 ⟨rfl, hK2, hT2⟩
      have HS2 := Lib.hid (HS1.out.touch hT2 Hq.out Hgs.out)
      have HK2 := Lib.hid hK2
      have HT2 := Lib.hid (HT1.out.trans hT2)
      obtain ⟨g, vc', hv, hg1, hg2, hg3, hg4, hg5⟩ := row_some HR.out (by have := Hln.out; omega)
      have hlL := Hln.out
      simp only [Value.slice.injEq] at hv
      obtain ⟨hva, _, _⟩ := hv
      subst hva
      have HG := Lib.hid (show ∀ j (hj : j < ln), ∃ z, (∃ i, i < m ∧ bf i = z) ∧ w2.cell? ⟨g, j, none⟩ = some (.int .i64 (z : Int)) from fun j hj => by
        refine ⟨L[j]'(by omega), HM.out _ (List.getElem_mem _), ?_⟩
        rw [hT2.cell (p := ⟨g, j, none⟩) hg2 (fun e => by
          have := (HK1.out.ne_row HR.out (by decide)).2
          exact this (by rw [show mb = g from e.symm]; rfl)), hg5 j (by omega)]
        unfold natVs
        rw [List.getElem?_map, List.getElem?_eq_getElem (by omega)]; rfl)
      obtain ⟨mk, hmk⟩ : ∃ mk, mk = markOf (seen B s) s := ⟨_, rfl⟩
      rw [← hmk]
      have Hmk := Lib.hid hmk
      clear hmk hK2 hT2 hg1 hg2 hg3 hg4 hg5 hlL HK1 HS1 c0 HR HM
      obtain ⟨pS, cS, hstr, hpS⟩ := HS2.out.strong
      obtain ⟨z0, ⟨i0, hi0, hz0⟩, _⟩ := HG.out 0 (by omega)
      have hn00 := Hbf.out i0 hi0
      have hpS1 := hpS (by omega)
      subst hpS1
      clear hz0 hi0 hpS hn00
      go_upto_region 7 with fail
      go_loopw [13, 41] (fun fv_ jv wr => ∃ (r : Int) (j : Nat), fv_ = .int .i64 r ∧ jv = .int .i64 (j : Int) ∧ j ≤ ln ∧ Hid (MatchGood m bf sf mk r) ∧ wr = w2) (fun _ jv _ => ln - (intOf jv).toNat)
      case atStart => exact ⟨-1, 0, rfl, rfl, Nat.zero_le _, Lib.hid (Or.inl rfl), rfl⟩
      case round =>
        obtain ⟨r, j, rfl, rfl, hj, HGd, rfl⟩ := hrel
        by_cases hlt : j < ln
        · obtain ⟨z, hz, d1⟩ := HG.out j hlt
          have Hz := Lib.hid hz
          have hzn : z < nS := by obtain ⟨i, hi, rfl⟩ := hz; exact Hbf.out i hi
          have d2 := HS2.out.marks z hzn
          clear hz
          by_cases hmz : sf z = mk
          · have hb1 : ((sf z).toList == mk.toList) = true := by rw [strEq_any]; exact decide_eq_true hmz
            have HGz := Lib.hid (show MatchGood m bf sf mk (z : Int) by obtain ⟨i, hi, hiz⟩ := Hz.out; exact Or.inr ⟨i, hi, by rw [hiz], by rw [hiz]; exact hmz⟩)
            generalize sf z = y at d2 hb1
            clear hmz
            by_cases hzw : (z : Int) = wn
            · have hb2 : ((z : Int) == wn) = true := by rw [beq_iff_eq]; exact hzw
              clear hzw
              go_wp2_with fail
              go_ret
              exact ⟨_, rfl, HT2.out, Or.inr ⟨Hsb.out, HK2.out, by rw [← Hmk.out]; exact HGz.out⟩⟩
            · have hb2 : ((z : Int) == wn) = false := by rw [beq_eq_false_iff_ne]; exact hzw
              clear hzw
              by_cases hr0 : r < 0
              · go_wp2_with fail
                go_roundw
                case rel => exact ⟨z, j + 1, rfl, by go_num, by omega, HGz, by trivial⟩
                case measure => simp [intOf]; omega
              · go_wp2_with fail
                go_roundw
                case rel => exact ⟨r, j + 1, rfl, by go_num, by omega, HGd, by trivial⟩
                case measure => simp [intOf]; omega
          · have hb1 : ((sf z).toList == mk.toList) = false := by rw [strEq_any]; exact decide_eq_false hmz
            generalize sf z = y at d2 hb1
            clear hmz
            go_wp2_with fail
            go_roundw
            case rel => exact ⟨r, j + 1, rfl, by go_num, by omega, HGd, by trivial⟩
            case measure => simp [intOf]; omega
        · go_wp2_with fail
          go_ret
          exact ⟨_, rfl, HT2.out, Or.inr ⟨Hsb.out, HK2.out, by rw [← Hmk.out]; exact HGd.out⟩⟩
    · have hsb' : ((s.size : Int) != (bl : Int)) = true := by rw [bne_iff_ne]; omega
      clear hsz
      go_wp2_with fail
      go_ret
      exact ⟨-1, rfl, HT1.out, Or.inl ⟨rfl, HK1.out⟩⟩
end Go.Proofs.YtaemlplcjjbamaaGreatDoor
namespace Go.Proofs.YtaemlplcjjbamaaGreatDoor
open Go Go.RowKit
set_option linter.unusedVariables false
theorem tabBlock_any (q bl gs nS : Nat) (sf : Nat → ByteArray) (w : World) (h : TabSig q bl gs nS sf w) :
    Calls Tryz.prog 176 #[.pointer (some ⟨q, 0, none⟩)] w fun e w' => e = .returned (.int .i64 (bl : Int)) ∧ w' = w := by
  have c0 := h.block
  clear h
  go_enter Tryz.func176, Tryz.ntmps176
  go_wp2
  go_ret
  exact ⟨rfl, rfl⟩
theorem tabSize_any (q size : Nat) (w : World) (c0 : w.cell? ⟨q, 1, none⟩ = some (.int .i64 (size : Int))) :
    Calls Tryz.prog 198 #[.pointer (some ⟨q, 0, none⟩)] w fun e w' => e = .returned (.int .i64 (size : Int)) ∧ w' = w := by
  go_enter Tryz.func198, Tryz.ntmps198
  go_wp2
  go_ret
  exact ⟨rfl, rfl⟩
end Go.Proofs.YtaemlplcjjbamaaGreatDoor
