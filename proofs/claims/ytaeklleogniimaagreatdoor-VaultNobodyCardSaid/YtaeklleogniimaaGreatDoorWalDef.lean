/- A log's calls as plain functions of a device's plain state, the texts that a book has marked, and the log's place. No program in sight. -/
import Derived.Test.YtaeklleogniimaaGreatDoorWalSpoil
import Derived.Test.YtaeklleogniimaaGreatDoorRig
import Derived.Lib.SlBytesConst
import Derived.ArgAppend
namespace Go.Proofs.YtaeklleogniimaaGreatDoor
open Go Go.RowKit
set_option linter.unusedVariables false

/-- the name when so many digits are laid -/
def digAt (n j : Nat) : List UInt8 := segL ++ (List.replicate (8 - j) 48 ++ (digL n).drop (8 - j))
theorem digAt_length (n j : Nat) (hj : j ≤ 8) : (digAt n j).length = 12 := by
  unfold digAt
  rw [List.length_append, List.length_append, List.length_replicate, List.length_drop]
  show 4 + (8 - j + (8 - (8 - j))) = 12
  omega
theorem digAt_full (n : Nat) : digAt n 8 = segL ++ digL n := rfl
theorem digAt_none (n : Nat) : digAt n 0 = segL ++ List.replicate 8 48 := rfl
theorem digAt_zero (n j : Nat) (hj : j ≤ 8) (hn : n < 100000000) (h : n / 10 ^ j = 0) : digAt n j = segL ++ digL n := by
  have z : ∀ d, n / d = 0 → UInt8.ofNat (48 + n / d % 10) = 48 := fun d h => by rw [h]; rfl
  have hc : j = 0 ∨ j = 1 ∨ j = 2 ∨ j = 3 ∨ j = 4 ∨ j = 5 ∨ j = 6 ∨ j = 7 ∨ j = 8 := by omega
  unfold digAt
  congr 1
  rcases hc with rfl | rfl | rfl | rfl | rfl | rfl | rfl | rfl | rfl
  · have h0 : n = 0 := by simpa using h
    subst h0; rfl
  all_goals simp only [Nat.reducePow] at h
  all_goals unfold digL
  all_goals (try rw [z 10000000 (by omega)]) <;> (try rw [z 1000000 (by omega)]) <;> (try rw [z 100000 (by omega)]) <;> (try rw [z 10000 (by omega)]) <;> (try rw [z 1000 (by omega)]) <;> (try rw [z 100 (by omega)]) <;> (try rw [z 10 (by omega)])
  all_goals rfl
theorem digAt_set (n j : Nat) (hj : j < 8) : (digAt n j).set (11 - j) (UInt8.ofNat (48 + n / 10 ^ j % 10)) = digAt n (j + 1) := by
  have hc : j = 0 ∨ j = 1 ∨ j = 2 ∨ j = 3 ∨ j = 4 ∨ j = 5 ∨ j = 6 ∨ j = 7 := by omega
  rcases hc with rfl | rfl | rfl | rfl | rfl | rfl | rfl | rfl
  · rw [Nat.pow_zero, Nat.div_one]; rfl
  all_goals rfl
theorem digAt_more (n j : Nat) : n / 10 ^ (j + 1) = n / 10 ^ j / 10 := by rw [Nat.pow_succ, Nat.div_div_eq_div_mul]

theorem name_row {w : World} {B : Nat} {v : Value} {Q : Prop} (h : (8 = 0 ∧ Q) ∨ w.ownsRow B 5 1 v (4 + 8) (bytesVals (segL ++ List.replicate 8 48))) : ∃ g uc, v = .slice (some ⟨g, 0, none⟩) 12 uc ∧ B ≤ g ∧ g < w.heap.size ∧ w.ownsRow B 5 1 (.slice (some ⟨g, 0, none⟩) 12 uc) 12 (bytesVals (segL ++ List.replicate 8 48)) := by
  rcases h with ⟨h, _⟩ | hown
  · cases h
  · obtain ⟨ad, cap, rfl, h1, h2, h3, h4, h5⟩ := row_open hown
    cases ad with
    | none => have := h4 rfl; omega
    | some x =>
      obtain ⟨g, rfl, hg1, hg2, _⟩ := h5 x rfl
      exact ⟨g, cap, rfl, hg1, hg2, hown⟩
set_option maxRecDepth 100000 in
set_option maxHeartbeats 1000000 in
theorem walName_any (n : Nat) (w : World) (hn : n < 100000000) :
    Calls Tryz.prog 79 #[.int .i64 n] w fun e w' => e = .returned (.string (wname n)) ∧ Below w.heap.size w w' := by
  have kc := fun (w : World) (C : Array Value) (n c : Nat) => Lib.run_convert_bytes_const (P := Tryz.prog) w 134 5 C n c Tryz.underlying134 Tryz.underlying5
  go_enter Tryz.func79, Tryz.ntmps79
  go_wp2_with fail
  clear kc
  go_loopw [3, 7] (fun v i wr => ∃ k : Nat, k ≤ 8 ∧ i = .int .i64 k ∧ Hid ((k = 0 ∧ v = .slice (some ⟨w.heap.size, 0, none⟩) 4 4 ∧ ∀ j u, (bytesVals segL)[j]? = some u → wr.cell? ⟨w.heap.size, j, none⟩ = some u) ∨ wr.ownsRow w.heap.size 5 1 v (4 + k) (bytesVals (segL ++ List.replicate k 48))) ∧ Hid (Below w.heap.size w wr)) (fun _ i _ => 8 - (intOf i).toNat)
  case atStart =>
    refine ⟨0, Nat.zero_le _, rfl, Lib.hid (Or.inl ⟨rfl, rfl, fun j u hj => ?_⟩), Lib.hid ((Below.refl _ _).alloc (Nat.le_refl _) _)⟩
    rw [cell_of_row _ _ j _ _ _ (heap_alloc_new w _)]
    simpa [bytesVals, segL] using hj
  case round =>
    obtain ⟨k, hk, rfl, HO, HB⟩ := hrel
    have hrep : bytesVals (segL ++ List.replicate (k + 1) 48) = bytesVals (segL ++ List.replicate k 48) ++ [.int .u8 48] := by
      rw [List.replicate_succ', ← List.append_assoc]
      unfold bytesVals
      rw [List.map_append]
      rfl
    have HRep := Lib.hid hrep
    clear hrep
    by_cases hlt : k < 8
    · have hlt2 : (k : Int) < 8 := by omega
      rcases HO.out with ⟨rfl, rfl, hcs⟩ | hown
      · obtain ⟨i0, hi, hz0, hz1, hz2⟩ := info_parts info_u8b
        have hws := HB.out.size
        have hlw : w.heap.size < wr.heap.size := by
          have := World.block_lt_of_cell? wr _ (hcs 0 _ rfl)
          exact this
        have hcs2 : ∀ j u, (bytesVals segL)[j]? = some u → (wr.alloc (.cells #[Value.int .u8 48] 5)).cell? ((⟨w.heap.size, 0, none⟩ : Addr).add j) = some u := fun j u hj => by
          rw [addr_add]
          exact (((Below.refl wr.heap.size wr).alloc (Nat.le_refl _) _).cell (p := ⟨w.heap.size, j, none⟩) hlw).trans (hcs j u hj)
        have HCS := Lib.hid hcs2
        have hnw : ∀ j u, [Value.int .u8 48][j]? = some u → (wr.alloc (.cells #[Value.int .u8 48] 5)).cell? ((⟨wr.heap.size, 0, none⟩ : Addr).add j) = some u := fun j u hj => by
          rw [addr_add, World.cell?_alloc_new]
          simpa using hj
        have HNW := Lib.hid hnw
        clear hcs hcs2 hnw
        go_wp2_with (at_builtin; refine wpList_append_grows _ rfl _ _ 134 rfl 5 i0 (.int .u8 0) 1 1 Tryz.underlying134 hi hz0 hz1 hz2 rfl (by decide) (some ⟨w.heap.size, 0, none⟩) 4 4 (bytesVals segL) rfl (fun h => (by cases h)) rfl (fun b hb => (by cases hb; exact HCS.out)) ⟨wr.heap.size, 0, none⟩ 1 1 [.int .u8 48] rfl rfl HNW.out (by simp [Value.oneCell']) (by omega) ?c1 (by omega) ?_)
        case c1 => unfold maxLen; omega
        intro v' w1 hown3 hb3
        have HO4 : Hid ((0 + 1 = 0 ∧ v' = .slice (some ⟨w.heap.size, 0, none⟩) 4 4 ∧ ∀ j u, (bytesVals segL)[j]? = some u → w1.cell? ⟨w.heap.size, j, none⟩ = some u) ∨ w1.ownsRow w.heap.size 5 1 v' (4 + (0 + 1)) (bytesVals (segL ++ List.replicate (0 + 1) 48))) := Lib.hid (Or.inr (row_base hown3 (Nat.le_trans hws (Nat.le_succ _))))
        have HB4 := Lib.hid ((HB.out.alloc hws _).grown hb3 (by simp; omega) (fun k hk => (by cases hk)))
        clear hown3 hb3 HO HB HCS HNW hi
        go_wp2
        go_roundw
        case rel => exact ⟨0 + 1, by omega, by go_num, HO4, HB4⟩
        case measure => simp [intOf]
      · obtain ⟨ua, uc, hu⟩ := row_shape hown
        subst hu
        go_wp2_with (at_builtin; refine append_one rfl _ _ 134 rfl w.heap.size 5 1 1 Tryz.underlying134 _ info_u8b rfl (by decide) _ _ _ rfl hown [.int .u8 48] rfl rfl (by simp [Value.oneCell']) ?c1 ?c2 ?c3 ?_)
        case c1 => unfold maxLen; omega
        case c2 => omega
        case c3 => exact HB.out.size
        intro v' w1 hown3 hb3
        rw [← HRep.out] at hown3
        have HO4 : Hid ((k + 1 = 0 ∧ v' = .slice (some ⟨w.heap.size, 0, none⟩) 4 4 ∧ ∀ j u, (bytesVals segL)[j]? = some u → w1.cell? ⟨w.heap.size, j, none⟩ = some u) ∨ w1.ownsRow w.heap.size 5 1 v' (4 + (k + 1)) (bytesVals (segL ++ List.replicate (k + 1) 48))) := Lib.hid (Or.inr hown3)
        have HB4 := Lib.hid (HB.out.trans hb3)
        clear hown3 hown hb3 HO HB
        go_wp2
        go_roundw
        case rel => exact ⟨k + 1, by omega, by go_num, HO4, HB4⟩
        case measure => simp [intOf]; omega
    · have hk8 : k = 8 := by omega
      have HO8 := HO.out
      rw [hk8] at HO8
      obtain ⟨g, uc, rfl, hg1, hg2, hown⟩ := name_row HO8
      have hge : (8 : Int) ≤ (k : Int) := by omega
      clear HO8
      have HO2 : Hid (wr.ownsRow w.heap.size 5 1 (.slice (some ⟨g, 0, none⟩) 12 uc) 12 (bytesVals (digAt n 0))) := Lib.hid (by rw [digAt_none]; exact hown)
      clear hown HO hk hk8 hlt HRep
      obtain ⟨wo, rfl⟩ : ∃ wo : World, wo = wr := ⟨_, rfl⟩
      go_wp2
      go_loopw [0, 4] (fun m i wr => ∃ j : Nat, j ≤ 8 ∧ i = .int .i64 ((11 - j : Nat) : Int) ∧ m = .int .i64 ((n / 10 ^ j : Nat) : Int) ∧ Hid (wr.ownsRow w.heap.size 5 1 (.slice (some ⟨g, 0, none⟩) 12 uc) 12 (bytesVals (digAt n j))) ∧ Hid (Below w.heap.size w wr)) (fun _ i _ => (intOf i).toNat)
      case atStart => exact ⟨0, Nat.zero_le _, rfl, by rw [Nat.pow_zero, Nat.div_one], HO2, HB⟩
      case round =>
        obtain ⟨j, hj, rfl, rfl, HO3, HB3⟩ := hrel
        have hback : ∀ l, digAt n j = l → (convert 134 9 (.slice (some ⟨g, 0, none⟩) 12 uc)).run Tryz.prog wr = .ok (.string (textOf l)) wr := fun l hl => by
          have hlen : l.length = 12 := by rw [← hl]; exact digAt_length n j hj
          rw [← hlen]
          refine run_convert_bytes_back wr 134 9 5 ⟨g, 0, none⟩ uc l Tryz.underlying134 Tryz.underlying5 Tryz.underlying9 ?_
          intro i hi
          rw [addr_add]
          have hc := HO3.out.cellAt i (by omega)
          rw [hl] at hc
          rw [hc]
          unfold bytesVals
          rw [List.getElem?_map, List.getElem?_eq_getElem hi]
          rfl
        by_cases h0 : n / 10 ^ j = 0
        · have hb := hback _ (digAt_zero n j hj hn h0)
          rw [h0]
          clear hback
          clear HO3
          go_wp2
          go_ret
          exact ⟨rfl, HB3.out⟩
        · by_cases h8 : j < 8
          · have hset := digAt_set n j h8
            have hmore := digAt_more n j
            have hi4 : (4 : Int) ≤ ((11 - j : Nat) : Int) := by omega
            have hi12 : ((11 - j : Nat) : Int) < 12 := by omega
            have hi12n : 11 - j < 12 := by omega
            obtain ⟨v0, c0⟩ : ∃ v, wr.cell? ⟨g, 11 - j, none⟩ = some v := by
              rw [HO3.out.cellAt (11 - j) (by omega)]
              exact ⟨_, List.getElem?_eq_getElem (by unfold bytesVals; rw [List.length_map, digAt_length n j hj]; omega)⟩
            have f0 : wr.frozen? ⟨g, 11 - j, none⟩ = false := row_free HO3.out (11 - j)
            have hx : ((UInt8.ofNat (48 + n / 10 ^ j % 10)).toNat : Int) = 48 + ((n / 10 ^ j : Nat) : Int) % 10 := by
              rw [UInt8.toNat_ofNat']
              omega
            have HS : Hid ((wr.setCell ⟨g, 11 - j, none⟩ (.int .u8 (48 + ((n / 10 ^ j : Nat) : Int) % 10))).ownsRow w.heap.size 5 1 (.slice (some ⟨g, 0, none⟩) 12 uc) 12 (bytesVals (digAt n (j + 1)))) := Lib.hid (by
              rw [← hset, ← bytes_set, hx]
              exact row_setCell HO3.out hi12n _)
            have HB4 : Hid (Below w.heap.size w (wr.setCell ⟨g, 11 - j, none⟩ (.int .u8 (48 + ((n / 10 ^ j : Nat) : Int) % 10)))) := Lib.hid (HB3.out.setCell hg1 _)
            have HM := Lib.hid hmore
            have Hj : Hid (j < 8) := Lib.hid h8
            clear hback hset hmore hx HO3 HB3
            have hNb : n / 10 ^ j ≤ n := Nat.div_le_self _ _
            generalize hN : n / 10 ^ j = N at *
            have hNc : N < 100000000 := by omega
            go_wp2
            go_roundw
            case rel => exact ⟨j + 1, Hj.out, val_int (by omega), by rw [HM.out]; exact val_int (by omega), HS, HB4⟩
            case measure => simp [intOf]; omega
          · obtain rfl : j = 8 := by omega
            have hb := hback _ (digAt_full n)
            have h0' : (0 : Int) < ((n / 10 ^ 8 : Nat) : Int) := by omega
            clear hback HO3
            go_wp2
            all_goals (go_ret; exact ⟨rfl, HB3.out⟩)
end Go.Proofs.YtaeklleogniimaaGreatDoor
namespace Go.Proofs.YtaeklleogniimaaGreatDoor
open Go Go.RowKit
set_option linter.unusedVariables false

theorem hasPrefix_seg (s : ByteArray) (h : s.size = 12) : Lib.hasPrefix s.data.toList [115, 101, 103, 45] = decide (s.data.toList.take 4 = segL) := by
  rw [← Lib.hasPrefix_of_take, decide_eq_true (show ([115, 101, 103, 45] : List UInt8).length ≤ s.data.toList.length by rw [size_list]; simp; omega), Bool.true_and]
  rw [Bool.eq_iff_iff, beq_iff_eq, decide_eq_true_eq]
  exact Iff.rfl
theorem wnum_short {s : ByteArray} (h : s.size ≠ 12) : wnum s = none := by
  unfold wnum
  rw [if_neg (fun hh => h (by rw [← size_list]; exact hh.1))]
theorem wnum_other {s : ByteArray} (h : ¬ s.data.toList.take 4 = segL) : wnum s = none := by
  unfold wnum
  rw [if_neg (fun hh => h hh.2)]
theorem wnum_go {s : ByteArray} (h : s.size = 12) (hp : s.data.toList.take 4 = segL) : wnum s = wgo 0 (s.data.toList.drop 4) := by
  unfold wnum
  rw [if_pos ⟨by rw [size_list]; exact h, hp⟩]
def numVal (o : Option Nat) : Value := .tuple #[.int .i64 ((o.getD 0 : Nat) : Int), .bool o.isSome]

set_option maxRecDepth 100000 in
set_option maxHeartbeats 1000000 in
theorem walNumber_any (s : ByteArray) (w : World) :
    Calls Tryz.prog 138 #[.string s] w fun e w' => e = .returned (numVal (wnum s)) ∧ Below w.heap.size w w' := by
  by_cases h12 : s.size = 12
  · have HP := Lib.hid (Tryz.strings_HasPrefix s ⟨#[115, 101, 103, 45]⟩ w)
    have hi12 : (s.size : Int) = 12 := by omega
    by_cases hp : s.data.toList.take 4 = segL
    · have e := wnum_go h12 hp
      have hq : Lib.hasPrefix s.data.toList [115, 101, 103, 45] = true := by rw [hasPrefix_seg s h12]; exact decide_eq_true hp
      have HQ := Lib.hid hq
      rw [e]
      generalize hR : wgo 0 (s.data.toList.drop 4) = R
      have HR := Lib.hid hR
      clear hR
      have hcv2 := fun w s => run_bytes_of_string (P := Tryz.prog) w 9 134 5 s Tryz.underlying9 Tryz.underlying134 Tryz.underlying5
      clear e hq hp
      go_enter Tryz.func138, Tryz.ntmps138
      go_wp2_with fail
      refine HP.out.mono ?_
      rintro e w1 ⟨rfl, rfl⟩
      have hq2 := HQ.out
      go_wp2_with fail
      clear hcv2 hq2 HQ HP
      have hu8 : (s.extract 4 12).size = 8 := by rw [ByteArray.size_extract]; omega
      have hul : (s.extract 4 12).data.toList = s.data.toList.drop 4 := by
        rw [ByteArray.data_extract, Array.toList_extract, List.extract_eq_take_drop, List.take_of_length_le]
        rw [List.length_drop, size_list]
        omega
      have HR1 := HR.out
      rw [← hul] at HR1
      clear HR
      generalize s.extract 4 12 = u at hu8 hul HR1 ⊢
      have HR2 := Lib.hid HR1
      clear HR1
      obtain ⟨hC, hB⟩ := bytes_block (w := w1) (s := u) (cap := grownCap w1 8 0 5) (C := bytesRow u (grownCap w1 8 0 5)) (e := 5) (m := ((bytesRow u (grownCap w1 8 0 5)).size, (bytesRow u (grownCap w1 8 0 5)).size + 1)) rfl
      have hcap : 8 ≤ grownCap w1 8 0 5 := grownCap_ge w1 _ _ _
      generalize ((w1.alloc (Obj.cells (bytesRow u (grownCap w1 8 0 5)) 5 ((bytesRow u (grownCap w1 8 0 5)).size, (bytesRow u (grownCap w1 8 0 5)).size + 1))).drew) = w2 at hC hB ⊢
      generalize grownCap w1 8 0 5 = cap at hcap ⊢
      obtain ⟨H, hH⟩ : ∃ H, H = w1.heap.size := ⟨_, rfl⟩
      have HB := Lib.hid hB
      rw [← hH] at hC ⊢
      have HC := Lib.hid hC
      clear hB hH hC hul hi12 h12
      go_loop [4, 19] (fun m i => ∃ k n : Nat, k ≤ 8 ∧ i = .int .i64 k ∧ m = .int .i64 n ∧ n < 10 ^ k ∧ Hid (R = wgo n (u.data.toList.drop k))) (fun _ i => 8 - (intOf i).toNat)
      case atStart => exact ⟨0, 0, by omega, rfl, rfl, by decide, Lib.hid HR2.out.symm⟩
      case round =>
        obtain ⟨k, n, hk, rfl, rfl, hn, HG⟩ := hrel
        by_cases hlt : k < 8
        · have hku : k < u.size := by omega
          have hcell := HC.out k hku
          have hb := (u[k]).toNat_lt
          have hdrop : u.data.toList.drop k = u[k] :: u.data.toList.drop (k + 1) := by
            rw [List.drop_eq_getElem_cons (by rw [size_list]; exact hku)]
            rfl
          rw [hdrop] at HG
          have hpow : 10 ^ k ≤ 10 ^ 7 := Nat.pow_le_pow_right (by decide) (by omega)
          have hpow2 : 10 ^ (k + 1) = 10 ^ k * 10 := Nat.pow_succ 10 k
          have hn7 : n < 10000000 := by omega
          by_cases hok : (u[k]).toNat < 48 ∨ 57 < (u[k]).toNat
          · have hnone : R = none := by
              rw [HG.out]
              show (if _ then none else _) = none
              rw [if_pos hok]
            have HNo := Lib.hid hnone
            have hd1 : (decide (((u[k]).toNat : Int) < 48) || decide (57 < ((u[k]).toNat : Int))) = true := by
              simp only [Bool.or_eq_true, decide_eq_true_eq]; omega
            generalize (u[k]).toNat = c at hcell hb hok hd1
            clear hpow hpow2 hnone HG
            go_wp2_with fail
            all_goals first
              | (exfalso; omega)
              | (go_ret2; exact ⟨by rw [HNo.out]; rfl, HB.out⟩)
          · have hsome : R = wgo (10 * n + ((u[k]).toNat - 48)) (u.data.toList.drop (k + 1)) := by
              rw [HG.out]
              show (if _ then none else _) = _
              rw [if_neg hok]
            have HS := Lib.hid hsome
            have HN : Hid (10 * n + ((u[k]).toNat - 48) < 10 ^ (k + 1)) := Lib.hid (by omega)
            have hd1 : (decide (((u[k]).toNat : Int) < 48) || decide (57 < ((u[k]).toNat : Int))) = false := by
              simp only [Bool.or_eq_false_iff, decide_eq_false_iff_not]; omega
            generalize (u[k]).toNat = c at hcell hb hok hd1 HS HN
            clear hpow hpow2 hsome HG hn
            go_wp2_with fail
            go_round
            case rel => exact ⟨k + 1, 10 * n + (c - 48), by omega, by go_num, val_int (by omega), HN.out, HS⟩
            case measure => simp [intOf]; omega
        · obtain rfl : k = 8 := by omega
          have hend : R = some n := by
            rw [HG.out, List.drop_eq_nil_of_le (by rw [size_list]; omega)]
            rfl
          have HE := Lib.hid hend
          clear hend
          go_wp2_with fail
          go_ret2
          exact ⟨by rw [HE.out]; rfl, HB.out⟩
    · have e := wnum_other hp
      have hq : Lib.hasPrefix s.data.toList [115, 101, 103, 45] = false := by rw [hasPrefix_seg s h12]; exact decide_eq_false hp
      have HQ := Lib.hid hq
      rw [e]
      clear e hq hp
      go_enter Tryz.func138, Tryz.ntmps138
      go_wp2_with fail
      refine HP.out.mono ?_
      rintro e w1 ⟨rfl, rfl⟩
      have hq2 := HQ.out
      go_wp2_with fail
      go_ret2
      exact ⟨rfl, Below.refl _ _⟩
  · have e := wnum_short h12
    have hi12 : ¬ ((s.size : Int) = 12) := by omega
    rw [e]
    clear e
    go_enter Tryz.func138, Tryz.ntmps138
    go_wp2_with fail
    go_ret2
    exact ⟨rfl, Below.refl _ _⟩
end Go.Proofs.YtaeklleogniimaaGreatDoor
namespace Go.Proofs.YtaeklleogniimaaGreatDoor
open Go Go.RowKit
set_option linter.unusedVariables false

theorem four_of (s : ByteArray) (hs : s.size = 4) : s.data.toList = [s[0], s[1], s[2], s[3]] := by
  apply List.ext_getElem
  · simpa using hs
  · intro i h1 h2
    simp at h2
    match i, h2 with
    | 0, _ => rfl
    | 1, _ => rfl
    | 2, _ => rfl
    | 3, _ => rfl
set_option maxHeartbeats 400000 in
theorem walValue_any (s : ByteArray) (w : World) (hs : s.size = 4) :
    Calls Tryz.prog 212 #[.string s] w fun e w' => e = .returned (.int .i64 (valL s.data.toList : Nat)) ∧ Below w.heap.size w w' := by
  have h0 : 0 < s.size := by omega
  have h1 : 1 < s.size := by omega
  have h2 : 2 < s.size := by omega
  have h3 : 3 < s.size := by omega
  have i0 : (0 : Int) < (s.size : Int) := by omega
  have i1 : (1 : Int) < (s.size : Int) := by omega
  have i2 : (2 : Int) < (s.size : Int) := by omega
  have i3 : (3 : Int) < (s.size : Int) := by omega
  have b0 := UInt8.toNat_lt s[0]
  have b1 := UInt8.toNat_lt s[1]
  have b2 := UInt8.toNat_lt s[2]
  have b3 := UInt8.toNat_lt s[3]
  have Hs := Lib.hid hs
  clear hs
  go_enter Tryz.func212, Tryz.ntmps212
  go_wp2
  go_quiet (fail)
  go_wp2
  go_ret
  refine ⟨ret_int ?_, below_drewN (Below.refl _ _) nq⟩
  rw [four_of s Hs.out]
  have e1 : bits BinOp.or IntKind.i64 (s[0].toNat : Int) ((s[1].toNat : Int) * 256) = ((s[0].toNat + s[1].toNat * 2 ^ 8 : Nat) : Int) := i64_join 8 s[0].toNat s[1].toNat (by omega) (by omega) (by omega)
  have e2 : bits BinOp.or IntKind.i64 ((s[0].toNat + s[1].toNat * 2 ^ 8 : Nat) : Int) ((s[2].toNat : Int) * 65536) = ((s[0].toNat + s[1].toNat * 2 ^ 8 + s[2].toNat * 2 ^ 16 : Nat) : Int) := i64_join 16 _ s[2].toNat (by omega) (by omega) (by omega)
  have e3 : bits BinOp.or IntKind.i64 ((s[0].toNat + s[1].toNat * 2 ^ 8 + s[2].toNat * 2 ^ 16 : Nat) : Int) ((s[3].toNat : Int) * 16777216) = ((s[0].toNat + s[1].toNat * 2 ^ 8 + s[2].toNat * 2 ^ 16 + s[3].toNat * 2 ^ 24 : Nat) : Int) := i64_join 24 _ s[3].toNat (by omega) (by omega) (by omega)
  rw [e1, e2, e3]
  rfl
def segmentT : ByteArray := ⟨#[115, 101, 103, 109, 101, 110, 116, 32]⟩
/-- the mark ahead of a segment's first record -/
def firstM (n : Nat) : ByteArray := segmentT ++ wname n
theorem firstM_size (n : Nat) : (firstM n).size = 20 := by unfold firstM; rw [ByteArray.size_append, wname_size]; rfl
theorem walFirst_any (n : Nat) (w : World) (hn : n < 100000000) :
    Calls Tryz.prog 143 #[.int .i64 n] w fun e w' => e = .returned (.string (firstM n)) ∧ Below w.heap.size w w' := by
  have HN := Lib.hid (walName_any n w hn)
  have hz := wname_size n
  have e : firstM n = ⟨#[115, 101, 103, 109, 101, 110, 116, 32]⟩ ++ wname n := rfl
  rw [e]
  generalize wname n = N at HN hz ⊢
  have o1 : ¬ (9223372036854775807 < (⟨#[115, 101, 103, 109, 101, 110, 116, 32]⟩ : ByteArray).size + N.size) := by rw [hz]; decide
  clear e
  go_enter Tryz.func143, Tryz.ntmps143
  go_wp2_with fail
  refine HN.out.mono ?_
  rintro e w1 ⟨rfl, hb⟩
  have HB := Lib.hid hb
  clear hb
  go_wp2_with fail
  go_ret
  exact ⟨rfl, HB.out⟩

theorem extract_textOf (s : ByteArray) (a b : Nat) : s.extract a b = textOf ((s.data.toList.drop a).take (b - a)) := by
  apply list_inj
  rw [textOf_list, ByteArray.data_extract, Array.toList_extract, List.extract_eq_take_drop]
theorem valL_take (l : List UInt8) (h : 4 ≤ l.length) : valL (l.take 4) = valL l := by
  match l, h with
  | a :: b :: c :: d :: r, _ => rfl
def nextVal (o : Option (ByteArray × ByteArray)) : Value := match o with
  | none => .tuple #[.string ⟨#[]⟩, .string ⟨#[]⟩, .bool false]
  | some (s, m) => .tuple #[.string s, .string m, .bool true]
theorem next_short {B : List ByteArray} {last : ByteArray} {l : List UInt8} (h : l.length < 36) : nextP B last l = none := by unfold nextP; rw [if_pos h]
theorem next_bad {B : List ByteArray} {last : ByteArray} {l : List UInt8} (h : ¬ l.length < 36) (hv : valL l < 1 ∨ 1048833 < valL l ∨ l.length - 36 < valL l) : nextP B last l = none := by unfold nextP; rw [if_neg h, if_pos hv]
theorem next_tells {B : List ByteArray} {last s m : ByteArray} {l : List UInt8} (h : ¬ l.length < 36) (hv : ¬ (valL l < 1 ∨ 1048833 < valL l ∨ l.length - 36 < valL l)) (hs : s = textOf ((l.drop 36).take (valL l))) (hm : m = textOf ((l.drop 4).take 32)) :
    nextP B last l = if tells B (last ++ s) m = true then some (s, m) else none := by
  subst hs; subst hm
  unfold nextP tells
  rw [if_neg h, if_neg hv, joinT_append]
  by_cases hk : known B (last ++ textOf ((l.drop 36).take (valL l))) = true
  · by_cases he : markOf B (last ++ textOf ((l.drop 36).take (valL l))) = textOf ((l.drop 4).take 32)
    · rw [if_pos ⟨hk, he⟩, if_pos (by rw [hk, Bool.true_and]; exact decide_eq_true he)]
    · rw [if_neg (fun h => he h.2), if_neg (by rw [hk, Bool.true_and]; exact fun h => he (of_decide_eq_true h))]
  · rw [if_neg (fun h => hk h.1), if_neg (by rw [Bool.not_eq_true] at hk; rw [hk]; simp)]

set_option maxRecDepth 100000 in
set_option maxHeartbeats 1000000 in
theorem walNext_any (k mb : Nat) (B : List ByteArray) (all last : ByteArray) (at_ : Nat) (w : World) (h : BookIs w k mb B) (hat : at_ ≤ all.size) (hall : all.size ≤ 4194304) (hl : last.size ≤ 1000) (hB : B.length ≤ 1000000000) :
    Calls Tryz.prog 148 #[.pointer (some ⟨k, 0, none⟩), .string all, .int .i64 at_, .string last] w fun e w' => e = .returned (nextVal (nextP B last (all.data.toList.drop at_))) ∧ Below w.heap.size w w' := by
  have hlen : (all.data.toList.drop at_).length = all.size - at_ := by rw [List.length_drop, size_list]
  by_cases h36 : all.size - at_ < 36
  · rw [next_short (by omega)]
    have hi : (all.size : Int) - (at_ : Int) < 36 := by omega
    clear hlen
    go_enter Tryz.func148, Tryz.ntmps148
    go_wp2_with fail
    go_ret3
    exact ⟨rfl, Below.refl _ _⟩
  · have hi : ¬ ((all.size : Int) - (at_ : Int) < 36) := by omega
    have he4 : all.extract at_ (at_ + 4) = textOf ((all.data.toList.drop at_).take 4) := by rw [extract_textOf, Nat.add_sub_cancel_left]
    have hv4 : valL (all.extract at_ (at_ + 4)).data.toList = valL (all.data.toList.drop at_) := by rw [he4, textOf_list, valL_take _ (by omega)]
    have hz4 : (all.extract at_ (at_ + 4)).size = 4 := by rw [ByteArray.size_extract]; omega
    have HV := Lib.hid (fun w' => walValue_any (all.extract at_ (at_ + 4)) w' hz4)
    rw [hv4] at HV
    by_cases hv : valL (all.data.toList.drop at_) < 1 ∨ 1048833 < valL (all.data.toList.drop at_) ∨ (all.data.toList.drop at_).length - 36 < valL (all.data.toList.drop at_)
    · rw [next_bad (by omega) hv]
      rw [hlen] at hv
      generalize valL (all.data.toList.drop at_) = n at HV hv
      clear hlen he4 hv4 hz4
      go_enter Tryz.func148, Tryz.ntmps148
      go_wp2_with fail
      refine (HV.out _).mono ?_
      rintro e w1 ⟨rfl, hb⟩
      have HB1 := Lib.hid hb
      clear hb HV
      by_cases v1 : n < 1
      · have v1i : (n : Int) < 1 := by omega
        go_wp2_with fail
        go_ret3
        exact ⟨rfl, HB1.out⟩
      · have v1i : ¬ ((n : Int) < 1) := by omega
        by_cases v2 : 1048833 < n
        · have v2i : (1048833 : Int) < (n : Int) := by omega
          go_wp2_with fail
          go_ret3
          exact ⟨rfl, HB1.out⟩
        · have v2i : ¬ ((1048833 : Int) < (n : Int)) := by omega
          have v3i : (all.size : Int) - (at_ : Int) - 36 < (n : Int) := by omega
          clear hv
          go_wp2_with fail
          all_goals first
            | (exfalso; omega)
            | (go_ret3; exact ⟨rfl, HB1.out⟩)
    · have hT := fun s m hs hm => next_tells (B := B) (last := last) (l := all.data.toList.drop at_) (s := s) (m := m) (by omega) hv hs hm
      have hN1 := hv
      rw [hlen] at hN1
      have hmm : all.extract (at_ + 4) (at_ + 36) = textOf (((all.data.toList.drop at_).drop 4).take 32) := by
        rw [extract_textOf, List.drop_drop, show at_ + 36 - (at_ + 4) = 32 by omega]
      have hss : all.extract (at_ + 36) (at_ + 36 + valL (all.data.toList.drop at_)) = textOf (((all.data.toList.drop at_).drop 36).take (valL (all.data.toList.drop at_))) := by
        rw [extract_textOf, List.drop_drop, Nat.add_sub_cancel_left]
      have hfin := hT _ _ hss hmm
      generalize hR : nextP B last (all.data.toList.drop at_) = R at hfin ⊢
      have HR := Lib.hid hfin
      clear hR hfin
      generalize valL (all.data.toList.drop at_) = n at HV hN1 hss HR
      have hsz : (all.extract (at_ + 36) (at_ + 36 + n)).size = n := by rw [ByteArray.size_extract]; omega
      have HI := Lib.hid (fun w' (hw : BookIs w' k mb B) => is_any k mb B (last ++ all.extract (at_ + 36) (at_ + 36 + n)) (all.extract (at_ + 4) (at_ + 36)) w' hw (by rw [ByteArray.size_append, hsz]; unfold maxLen; omega) hB)
      have o1 : ¬ (9223372036854775807 < last.size + (all.extract (at_ + 36) (at_ + 36 + n)).size) := by rw [hsz]; omega
      have H := Lib.hid h
      have v1i : ¬ ((n : Int) < 1) := by omega
      have v2i : ¬ ((1048833 : Int) < (n : Int)) := by omega
      have v3i : ¬ ((all.size : Int) - (at_ : Int) - 36 < (n : Int)) := by omega
      have b1 : (at_ : Int) + 4 ≤ (at_ : Int) + 36 := by omega
      have b2 : (at_ : Int) + 36 ≤ (all.size : Int) := by omega
      have b3 : (at_ : Int) + 36 + (n : Int) ≤ (all.size : Int) := by omega
      clear hlen he4 hv4 hz4 hT hmm hss hv h hB
      go_enter Tryz.func148, Tryz.ntmps148
      go_wp2_with fail
      refine (HV.out _).mono ?_
      rintro e w1 ⟨rfl, hb⟩
      have HB1 := Lib.hid hb
      clear hb HV
      go_wp2_with fail
      go_quiet (fail)
      go_wp2_with fail
      refine (HI.out _ (H.out.below (below_drewN HB1.out nq))).mono ?_
      rintro e w2 ⟨rfl, hb⟩
      have HB2 := Lib.hid ((below_drewN HB1.out nq).trans (hb.mono (by have := HB1.out.size; exact this)))
      clear hb HI H
      cases hT : tells B (last ++ all.extract (at_ + 36) (at_ + 36 + n)) (all.extract (at_ + 4) (at_ + 36)) with
      | true =>
        have HE : Hid (R = some (all.extract (at_ + 36) (at_ + 36 + n), all.extract (at_ + 4) (at_ + 36))) := Lib.hid (by rw [HR.out, if_pos hT])
        clear hT HR
        go_wp2_with fail
        go_ret3
        exact ⟨by rw [HE.out]; rfl, HB2.out⟩
      | false =>
        have HE : Hid (R = none) := Lib.hid (by rw [HR.out, if_neg (by rw [hT]; decide)])
        clear hT HR
        go_wp2_with fail
        go_ret3
        exact ⟨by rw [HE.out]; rfl, HB2.out⟩
end Go.Proofs.YtaeklleogniimaaGreatDoor
namespace Go.Proofs.YtaeklleogniimaaGreatDoor
open Go Go.RowKit
set_option linter.unusedVariables false

structure LG where
  n : Nat
  e : Nat
  m : ByteArray
structure LG.Ok (L : LG) : Prop where
  n : L.n < 100000000
  e : L.e ≤ 2097152
  m : L.m.size ≤ 1000
structure WR where
  e : Int
  P : PS
  B : List ByteArray
  L : LG
def sig (c : UInt8) (s : ByteArray) : ByteArray := ⟨#[c]⟩ ++ s
theorem sig_size (c : UInt8) (s : ByteArray) : (sig c s).size = s.size + 1 := by
  unfold sig
  rw [ByteArray.size_append]
  exact Nat.add_comm 1 s.size
/-- records put one behind the other: the book behind them, and, unless one is too long, their bytes and the last one's mark -/
def putAcc (c : UInt8) : List ByteArray → List ByteArray → ByteArray → List UInt8 → List ByteArray × Option (List UInt8 × ByteArray)
  | [], B, m, acc => (B, some (acc, m))
  | s :: r, B, m, acc => if 1048832 < s.size then (B, none) else putAcc c r (seen B (m ++ sig c s)) (markOf (seen B (m ++ sig c s)) (m ++ sig c s)) (acc ++ recL (seen B (m ++ sig c s)) m (sig c s))
def wput (P : PS) (B : List ByteArray) (L : LG) (c : UInt8) (texts : List ByteArray) : WR :=
  match putAcc c texts B L.m [] with
  | (B', none) => ⟨4, P, B', L⟩
  | (B', some (t, m')) => if (P.write (wname L.n) L.e (textOf t)).1 = 0 then ⟨0, (P.write (wname L.n) L.e (textOf t)).2, B', ⟨L.n, L.e + t.length, m'⟩⟩ else ⟨(P.write (wname L.n) L.e (textOf t)).1, (P.write (wname L.n) L.e (textOf t)).2, B', L⟩
theorem wput_long {P : PS} {B B' : List ByteArray} {L : LG} {c : UInt8} {texts : List ByteArray} (h : putAcc c texts B L.m [] = (B', none)) : wput P B L c texts = ⟨4, P, B', L⟩ := by unfold wput; rw [h]
theorem wput_ok {P : PS} {B B' : List ByteArray} {L : LG} {c : UInt8} {texts : List ByteArray} {t : List UInt8} {m' : ByteArray} (h : putAcc c texts B L.m [] = (B', some (t, m'))) (h2 : (P.write (wname L.n) L.e (textOf t)).1 = 0) :
    wput P B L c texts = ⟨0, (P.write (wname L.n) L.e (textOf t)).2, B', ⟨L.n, L.e + t.length, m'⟩⟩ := by unfold wput; rw [h]; exact if_pos h2
theorem wput_no {P : PS} {B B' : List ByteArray} {L : LG} {c : UInt8} {texts : List ByteArray} {t : List UInt8} {m' : ByteArray} (h : putAcc c texts B L.m [] = (B', some (t, m'))) (h2 : ¬ (P.write (wname L.n) L.e (textOf t)).1 = 0) :
    wput P B L c texts = ⟨(P.write (wname L.n) L.e (textOf t)).1, (P.write (wname L.n) L.e (textOf t)).2, B', L⟩ := by unfold wput; rw [h]; exact if_neg h2
theorem OkP.write2 {n : Nat} {P : PS} (h : OkP n P) (s : ByteArray) (a : Int) (t : ByteArray) : OkP (n + 2097152) (P.write s a t).2 := by
  by_cases ht : t.size ≤ 2097152
  · exact (h.write s a t).mono (by omega)
  · have e : (P.write s a t).2 = P := by
      unfold PS.write
      split
      · rfl
      · split
        · rfl
        · rw [if_pos (by omega)]
    rw [e]
    exact h.mono (by omega)
theorem write_place {P : PS} {s : ByteArray} {a : Int} {t : ByteArray} (h : (P.write s a t).1 = 0) : 0 ≤ a ∧ a + (t.size : Nat) ≤ 2097152 := by
  unfold PS.write at h
  split at h
  · cases h
  · split at h
    · cases h
    · by_cases hr : a < 0 ∨ 2097152 - (t.size : Int) < a
      · rw [if_pos hr] at h; cases h
      · omega
theorem seen_length (B : List ByteArray) (s : ByteArray) : B.length ≤ (seen B s).length ∧ (seen B s).length ≤ B.length + 1 := by
  unfold seen
  split
  · omega
  · rw [List.length_append]; simp
theorem textOf_size (l : List UInt8) : (textOf l).size = l.length := by rw [← size_list, textOf_list]
theorem rec_text (B : List ByteArray) (last s : ByteArray) : (⟨(leL s.size).toArray⟩ ++ markOf B (last ++ s) ++ s : ByteArray) = textOf (recL B last s) := by
  apply list_inj
  rw [textOf_list]
  unfold recL
  rw [joinT_append, ByteArray.data_append, Array.toList_append, ByteArray.data_append, Array.toList_append, List.append_assoc]
theorem markOf_size (B : List ByteArray) (s : ByteArray) : (markOf B s).size = 32 := numb_size _
/-- the byte that a record's text begins with -/
def head0 (s : ByteArray) : Nat := (s.data.toList.headD 0).toNat
theorem head0_eq (s : ByteArray) (h : 0 < s.size) : head0 s = s[0].toNat := by
  have e : s.data.toList = s.data.toList.take 0 ++ (s[0] :: s.data.toList.drop 1) := by
    rw [List.take_zero, List.nil_append]
    have h1 := List.drop_eq_getElem_cons (l := s.data.toList) (i := 0) (by rw [size_list]; exact h)
    rw [List.drop_zero] at h1
    exact h1
  unfold head0
  rw [e]
  rfl
structure LO where
  e : Nat
  m : ByteArray
  sealed : Bool
  out : List ByteArray
/-- what a record does to what is loaded; none: it ends it -/
def lstep (sealed : Bool) (s : ByteArray) : Option (Bool × List ByteArray) :=
  if head0 s = 69 ∧ sealed = false ∧ s.size = 1 then some (true, [])
  else if (head0 s = 83 ∧ sealed = false) ∨ (head0 s = 82 ∧ sealed = true) then some (sealed, [s.extract 1 s.size])
  else none
def loadGo (B : List ByteArray) : Nat → LO → List UInt8 → LO
  | 0, o, _ => o
  | f + 1, o, l => match nextP B o.m l with
    | none => o
    | some (s, m) => match lstep o.sealed s with
      | none => o
      | some (sd, t) => loadGo B f ⟨o.e + (36 + s.size), m, sd, o.out ++ t⟩ (l.drop (36 + s.size))
theorem loadGo_end {B : List ByteArray} {f : Nat} {o : LO} {l : List UInt8} (h : nextP B o.m l = none) : loadGo B (f + 1) o l = o := by
  unfold loadGo; rw [h]
theorem loadGo_stop {B : List ByteArray} {f : Nat} {o : LO} {l : List UInt8} {s m : ByteArray} (h : nextP B o.m l = some (s, m)) (h2 : lstep o.sealed s = none) : loadGo B (f + 1) o l = o := by
  unfold loadGo; rw [h]; show (match lstep o.sealed s with | none => o | some (sd, t) => _) = _; rw [h2]
theorem loadGo_step {B : List ByteArray} {f : Nat} {o : LO} {l : List UInt8} {s m : ByteArray} {sd : Bool} {t : List ByteArray} (h : nextP B o.m l = some (s, m)) (h2 : lstep o.sealed s = some (sd, t)) : loadGo B (f + 1) o l = loadGo B f ⟨o.e + (36 + s.size), m, sd, o.out ++ t⟩ (l.drop (36 + s.size)) := by
  conv => lhs; unfold loadGo
  rw [h]
  show (match lstep o.sealed s with | none => o | some (sd, t) => _) = _
  rw [h2]
/-- what a segment holds; none: it can't be read -/
def loadP (P : PS) (B : List ByteArray) (n : Nat) : Option LO :=
  if (P.size (wname n)).2 ≠ 0 then none
  else if (P.read (wname n) 0 (P.size (wname n)).1).2 ≠ 0 then none
  else some (loadGo B ((P.read (wname n) 0 (P.size (wname n)).1).1.size + 1) ⟨0, firstM n, false, []⟩ (P.read (wname n) 0 (P.size (wname n)).1).1.data.toList)
end Go.Proofs.YtaeklleogniimaaGreatDoor
