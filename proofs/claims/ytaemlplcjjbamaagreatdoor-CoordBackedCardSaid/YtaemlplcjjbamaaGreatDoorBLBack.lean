/- The walk of the statement's majority: votes for a mark. (pri -/
import Derived.Test.YtaemlplcjjbamaaGreatDoorBLOps
namespace Go.Proofs.YtaemlplcjjbamaaGreatDoor
open Go.Lib (hid)
set_option maxRecDepth 100000
set_option maxHeartbeats 8000000
open Go Go.RowKit
set_option linter.unusedVariables false
variable {D : List ByteArray} {f k : Nat} {s : ByteArray}
theorem major8_any (wb n B c bk : Nat) (id : Int) (sv av : Value) (T : List Tl) (g : Int) (mk : ByteArray) (w : World) (hW : Blk w wb (zCY c bk id (n : Int) sv av) 43) (hA : w.ownsRow B 57 5 av T.length (toldV T)) (hn : n ≤ 9) (hT : T.length ≤ 1000000) :
  Calls Tryz.prog 14 #[.pointer (some ⟨wb, 0, none⟩), .int .i64 8, .int .i64 g, .int .i64 0, .string mk] w fun e w' => e = .returned (.bool (decide (n < 2 * (List.range n).countP (fun v => T.any (told8 v g mk))))) ∧ Below w.heap.size w w' := by
 have HW := hid hW
 have HA := hid hA
 have hwl := hW.lt
 obtain ⟨m, hm⟩ : ∃ m, m = T.length := ⟨_, rfl⟩
 rw [← hm] at HA hT
 have Hm := hid hm
 clear hW hA hm
 go_enter Tryz.func14, Tryz.ntmps14
 go_wp2_with fail
 go_loopw [11, 12] (fun cv vv wr => ∃ v : Nat, vv = .int .i64 (v : Int) ∧ v ≤ n ∧ cv = .int .i64 (((List.range v).countP (fun v => T.any (told8 v g mk)) : Nat) : Int) ∧ Hid (Below w.heap.size w wr)) (fun _ vv _ => n - (intOf vv).toNat)
 case atStart => exact ⟨0, rfl, Nat.zero_le _, rfl, hid (Below.refl _ _)⟩
 case round =>
  obtain ⟨v, rfl, hv, rfl, HB⟩ := hrel
  have c3 : wr.cell? ⟨wb, 3, none⟩ = some (.int .i64 (n : Int)) := (HW.out.below HB.out).cell 3
  have hwr := (HW.out.below HB.out).lt
  obtain ⟨cc, hcc⟩ : ∃ cc, cc = (List.range v).countP (fun v => T.any (told8 v g mk)) := ⟨_, rfl⟩
  have hcl : cc ≤ v := by rw [hcc]; have := List.countP_le_length (p := fun v => T.any (told8 v g mk)) (l := List.range v); rw [List.length_range] at this; exact this
  rw [← hcc]
  have Hcc := hid hcc
  clear hcc
  by_cases hlt : v < n
  ·go_wp2_with fail
   clear c3
   go_loopw [13, 14] (fun bv iv wr => ∃ i : Nat, iv = .int .i64 (i : Int) ∧ i ≤ m ∧ bv = .bool ((T.take i).any (told8 v g mk)) ∧ Hid (Below w.heap.size w wr)) (fun _ iv _ => m - (intOf iv).toNat)
   case atStart => exact ⟨0, rfl, Nat.zero_le _, by simp, HB⟩
   case round =>
    obtain ⟨i, rfl, hi, rfl, HBr⟩ := hrel
    clear HB hwr
    have hown := zAc HA.out HBr.out
    have hWr := HW.out.below HBr.out
    have hwr := hWr.lt
    obtain ⟨va, vc, rfl⟩ := zAe hown
    have c5 : wr.cell? ⟨wb, 5, none⟩ = some (.slice va m vc) := hWr.cell 5
    have c3 : wr.cell? ⟨wb, 3, none⟩ = some (.int .i64 (n : Int)) := hWr.cell 3
    have hsz := HBr.out.size
    by_cases hil : i < m
    ·obtain ⟨gg, cap, hvv, hg0, hg1, _, _, hcell⟩ := zAz hown (by omega)
     simp only [Value.slice.injEq] at hvv
     obtain ⟨rfl, _, rfl⟩ := hvv
     obtain ⟨x, hx⟩ : ∃ x, T[i]? = some x := ⟨_, List.getElem?_eq_getElem (by have := Hm.out; omega)⟩
     have x0 : wr.cell? ⟨gg, i * 5, none⟩ = some (.int .i64 x.k) := (hcell (i * 5) (by omega)).trans (zBq hx 0 (by omega))
     have x1 : wr.cell? ⟨gg, i * 5 + 1, none⟩ = some (.int .i64 x.fr) := (hcell (i * 5 + 1) (by omega)).trans (zBq hx 1 (by omega))
     have x2 : wr.cell? ⟨gg, i * 5 + 2, none⟩ = some (.int .i64 x.gen) := (hcell (i * 5 + 2) (by omega)).trans (zBq hx 2 (by omega))
     have x3 : wr.cell? ⟨gg, i * 5 + 3, none⟩ = some (.int .i64 x.rd) := (hcell (i * 5 + 3) (by omega)).trans (zBq hx 3 (by omega))
     have x4 : wr.cell? ⟨gg, i * 5 + 4, none⟩ = some (.string x.mrk) := (hcell (i * 5 + 4) (by omega)).trans (zBq hx 4 (by omega))
     have HTk := hid (any_take_succ (p := told8 v g mk) hx)
     obtain ⟨b, hb⟩ : ∃ b, b = (T.take i).any (told8 v g mk) := ⟨_, rfl⟩
     rw [← hb]
     have HBa := hid (HBr.out.alloc HBr.out.size (.cells #[.int .i64 x.k, .int .i64 x.fr, .int .i64 x.gen, .int .i64 x.rd, .string x.mrk] 57))
     rw [← hb] at HTk
     clear hcell hown hWr hx hb
     cases b with
     | true =>
      go_wp2_with fail
      go_roundw
      case rel => exact ⟨i + 1, by go_num, by omega, by rw [HTk.out, Bool.true_or], HBa⟩
      case measure => simp [intOf]; omega
     | false =>
      rw [Bool.false_or] at HTk
      by_cases h1 : x.k = 8
      ·have h1b : (x.k == 8) = true := by rw [h1]; rfl
       by_cases h2 : x.fr = (v : Int)
       ·have h2b : (x.fr == (v : Int)) = true := by rw [h2]; simp
        by_cases h3 : x.gen = g
        ·have h3b : (x.gen == g) = true := by rw [h3]; simp
         have hms := zAY x.mrk mk
         by_cases h4 : x.mrk = mk
         ·have hs : (x.mrk.toList == mk.toList) = true := by rw [hms, decide_eq_true h4]
          have Hp := hid (show told8 v g mk x = true from decide_eq_true ⟨h1, h2, h3, h4⟩)
          clear h1 h2 h3 h4 hms
          go_wp2_with fail
          go_roundw
          case rel => exact ⟨i + 1, by go_num, by omega, by rw [HTk.out, Hp.out], HBa⟩
          case measure => simp [intOf]; omega
         ·have hs : (x.mrk.toList == mk.toList) = false := by rw [hms, decide_eq_false h4]
          have Hp := hid (show told8 v g mk x = false from decide_eq_false (fun e => h4 e.2.2.2))
          clear h1 h2 h3 h4 hms
          go_wp2_with fail
          go_roundw
          case rel => exact ⟨i + 1, by go_num, by omega, by rw [HTk.out, Hp.out], HBa⟩
          case measure => simp [intOf]; omega
        ·have h3b : (x.gen == g) = false := by rw [beq_eq_false_iff_ne]; exact h3
         have Hp := hid (show told8 v g mk x = false from decide_eq_false (fun e => h3 e.2.2.1))
         clear h1 h2 h3
         go_wp2_with fail
         go_roundw
         case rel => exact ⟨i + 1, by go_num, by omega, by rw [HTk.out, Hp.out], HBa⟩
         case measure => simp [intOf]; omega
       ·have h2b : (x.fr == (v : Int)) = false := by rw [beq_eq_false_iff_ne]; exact h2
        have Hp := hid (show told8 v g mk x = false from decide_eq_false (fun e => h2 e.2.1))
        clear h1 h2
        go_wp2_with fail
        go_roundw
        case rel => exact ⟨i + 1, by go_num, by omega, by rw [HTk.out, Hp.out], HBa⟩
        case measure => simp [intOf]; omega
      ·have h1b : (x.k == 8) = false := by rw [beq_eq_false_iff_ne]; exact h1
       have Hp := hid (show told8 v g mk x = false from decide_eq_false (fun e => h1 e.1))
       clear h1
       go_wp2_with fail
       go_roundw
       case rel => exact ⟨i + 1, by go_num, by omega, by rw [HTk.out, Hp.out], HBa⟩
       case measure => simp [intOf]; omega
    ·obtain rfl : i = m := by omega
     have hfull : T.take i = T := by rw [List.take_of_length_le (by have := Hm.out; omega)]
     rw [hfull]
     have Hnx := hid (show (List.range (v + 1)).countP (fun v => T.any (told8 v g mk)) = cc + (if T.any (told8 v g mk) = true then 1 else 0) by rw [List.range_succ, List.countP_append, ← Hcc.out]; simp)
     obtain ⟨b, hb⟩ : ∃ b, b = T.any (told8 v g mk) := ⟨_, rfl⟩
     rw [← hb] at Hnx ⊢
     clear hb hfull
     cases b with
     | true =>
      go_wp2_with fail
      go_roundw
      case rel => exact ⟨v + 1, by go_num, by omega, by rw [Hnx.out, if_pos rfl]; go_num, HBr⟩
      case measure => simp [intOf]; omega
     | false =>
      go_wp2_with fail
      go_roundw
      case rel => exact ⟨v + 1, by go_num, by omega, by rw [Hnx.out, if_neg (by decide)]; rfl, HBr⟩
      case measure => simp [intOf]; omega
  ·obtain rfl : v = n := by omega
   go_wp2_with fail
   go_ret
   refine ⟨?_, HB.out⟩
   rw [← Hcc.out]
   exact congrArg Ending.returned (congrArg Value.bool (by rw [decide_eq_decide]; omega))
theorem zIH (s : ByteArray) (w : World) :
  Calls Tryz.prog 100 #[.string s] w fun e w' => e = .returned (.bool (nameL s.data.toList)) ∧ w = w' := by
 by_cases h : s ≠ ⟨#[]⟩ ∧ s ≠ ⟨#[46]⟩ ∧ s ≠ ⟨#[46, 46]⟩ ∧ s.size ≤ 32
 ·have hn := zHy h
  obtain ⟨h1, h2, h3, h4⟩ := h
  have q1 := zDG h1
  have q2 := zCL (l := [46]) h2
  have q3 := zCL (l := [46, 46]) h3
  have n1 := zBN (l := []) h1
  have n2 := zBN (l := [46]) h2
  have n3 := zBN (l := [46, 46]) h3
  have Hn := hid hn
  clear h1 h2 h3 hn
  go_enter Tryz.func100, Tryz.ntmps100
  go_wp2
  go_loop [3] (fun i => ∃ k : Nat, i = .int .i64 k ∧ k ≤ s.size ∧ Hid ((s.data.toList.take k).all okNB = true)) (fun i => s.size - (intOf i).toNat)
  case atStart => exact ⟨0, rfl, Nat.zero_le _, hid rfl⟩
  case round =>
   obtain ⟨k, rfl, hk, Hok⟩ := hrel
   by_cases hlt : k < s.size
   ·have bx := (s[k]'hlt).toNat_lt
    by_cases hok : okNB (s[k]'hlt) = true
    ·have hall := hid (zHL hlt Hok.out hok)
     have hok2 : 33 ≤ (s[k]'hlt).toNat ∧ (s[k]'hlt).toNat ≤ 126 := by simpa [okNB] using hok
     obtain ⟨hk1, hk2⟩ := hok2
     clear hok
     go_wp2
     go_round
     case rel => exact ⟨k + 1, by go_num, by omega, hall⟩
     case measure => simp [intOf]; omega
    ·have hbad := hid (zGw hlt (by simpa using hok))
     have hok2 : (s[k]'hlt).toNat < 33 ∨ (126 < (s[k]'hlt).toNat ∧ 33 ≤ (s[k]'hlt).toNat) := by
      have : ¬ (33 ≤ (s[k]'hlt).toNat ∧ (s[k]'hlt).toNat ≤ 126) := by simpa [okNB] using hok
      omega
     clear hok
     rcases hok2 with h5 | ⟨h5, h6⟩
     all_goals
      go_wp2
      go_ret
      rw [Hn.out, hbad.out]
      exact ⟨rfl, rfl⟩
   ·have hall := hid (show s.data.toList.all okNB = true by
     have h := Hok.out
     rw [List.take_of_length_le (by simp; omega)] at h
     exact h)
    go_wp2
    go_ret
    rw [Hn.out, hall.out]
    exact ⟨rfl, rfl⟩
 ·rw [zGT h]
  by_cases h1 : s = ⟨#[]⟩
  ·subst h1
   clear h
   go_enter Tryz.func100, Tryz.ntmps100
   go_wp2
   go_ret
   exact ⟨rfl, rfl⟩
  by_cases h2 : s = ⟨#[46]⟩
  ·subst h2
   clear h
   go_enter Tryz.func100, Tryz.ntmps100
   go_wp2
   go_ret
   exact ⟨rfl, rfl⟩
  by_cases h3 : s = ⟨#[46, 46]⟩
  ·subst h3
   clear h
   go_enter Tryz.func100, Tryz.ntmps100
   go_wp2
   go_ret
   exact ⟨rfl, rfl⟩
  have h4 : 32 < s.size := by
   rcases Nat.lt_or_ge 32 s.size with h' | h'
   ·exact h'
   ·exact absurd ⟨h1, h2, h3, h'⟩ h
  have q1 := zDG h1
  have q2 := zCL (l := [46]) h2
  have q3 := zCL (l := [46, 46]) h3
  have n1 := zBN (l := []) h1
  have n2 := zBN (l := [46]) h2
  have n3 := zBN (l := [46, 46]) h3
  clear h h1 h2 h3
  go_enter Tryz.func100, Tryz.ntmps100
  go_wp2
  go_ret
  exact ⟨rfl, rfl⟩
def zBG (s : ByteArray) (k f : Nat) (D : List ByteArray) : Prop :=
 (k ≤ s.size → f ≤ k ∧ (∀ j, (h : j < s.size) → f ≤ j → j < k → s[j] ≠ 47) ∧ D.map (·.data.toList) ++ pieces (s.data.toList.drop f) = pieces s.data.toList) ∧ (s.size < k → D.map (·.data.toList) = pieces s.data.toList)
theorem zFt (s : ByteArray) : zBG s 0 0 [] := by
 refine ⟨fun _ => ⟨by omega, fun j h h1 h2 => by omega, rfl⟩, fun h => by omega⟩
theorem zHi (hk : k ≤ s.size) (h : ∀ j, (h : j < s.size) → f ≤ j → j < k → s[j] ≠ 47) : ∀ b ∈ (s.data.toList.drop f).take (k - f), b ≠ 47 := by
 intro b hb
 obtain ⟨i, hi, rfl⟩ := List.getElem_of_mem hb
 rw [List.length_take, List.length_drop] at hi
 rw [List.getElem_take, List.getElem_drop]
 simp at hi
 exact h (f + i) (by omega) (by omega) (by omega)
theorem zGr (h : zBG s k f D) (hk : k < s.size) (hb : s[k] ≠ 47) : zBG s (k + 1) f D := by
 obtain ⟨h1, h2, h3⟩ := h.1 (by omega)
 refine ⟨fun _ => ⟨by omega, fun j hj hf hl => ?_, h3⟩, fun hh => by omega⟩
 by_cases e : j = k
 ·subst e; exact hb
 ·exact h2 j hj hf (by omega)
theorem zId (h : zBG s k f D) (hk : k < s.size) (hb : s[k] = 47) : zBG s (k + 1) (k + 1) (D ++ [s.extract f k]) := by
 obtain ⟨h1, h2, h3⟩ := h.1 (by omega)
 refine ⟨fun _ => ⟨by omega, fun j hj hf hl => by omega, ?_⟩, fun hh => by omega⟩
 rw [← h3, List.map_append, List.append_assoc]
 congr 1
 have e : s.data.toList.drop f = (s.data.toList.drop f).take (k - f) ++ 47 :: s.data.toList.drop (k + 1) := by
  conv => lhs; rw [← List.take_append_drop (k - f) (s.data.toList.drop f)]
  rw [List.drop_drop, show f + (k - f) = k by omega, zBZ s k hk, hb]
 conv => rhs; rw [e]
 rw [zDU _ _ (zHi (by omega) h2)]
 show [(s.extract f k).data.toList] ++ _ = _
 rw [zBA]
 rfl
theorem zHO (h : zBG s s.size f D) : zBG s (s.size + 1) (s.size + 1) (D ++ [s.extract f s.size]) := by
 obtain ⟨h1, h2, h3⟩ := h.1 (Nat.le_refl _)
 refine ⟨fun hh => by omega, fun _ => ?_⟩
 rw [← h3, List.map_append]
 congr 1
 have hf := zHi (Nat.le_refl _) h2
 have e : (s.data.toList.drop f).take (s.size - f) = s.data.toList.drop f := by
  rw [List.take_of_length_le]
  simp
 rw [e] at hf
 rw [zDm _ hf]
 show [(s.extract f s.size).data.toList] = _
 rw [zBA, e]
theorem zHn : (Tryz.prog.info? 9).map (fun i => (i.zero, i.size, i.bytes)) = some (some (.string ByteArray.empty), 1, 16) := by kernel_rfl
def zDd (D : List ByteArray) : List Value := D.map Value.string
theorem zEl (D : List ByteArray) (s : ByteArray) : zDd (D ++ [s]) = zDd D ++ [.string s] := by simp [zDd]
theorem zIh (s : ByteArray) (w : World) (hs : s.size ≤ 200) :
  Calls Tryz.prog 99 #[.string s] w fun e w' => ∃ v D, e = .returned v ∧ w'.ownsRow w.heap.size 9 1 v D.length (zDd D) ∧ D.length ≤ 201 ∧ D.map (·.data.toList) = pieces s.data.toList ∧ Below w.heap.size w w' := by
 have HS0 := hid (zFt s)
 go_enter Tryz.func99, Tryz.ntmps99
 go_wp2
 go_loopw [3, 4, 5] (fun v f i wr => ∃ (k g : Nat) (D : List ByteArray), i = .int .i64 k ∧ f = .int .i64 g ∧ k ≤ s.size + 1 ∧ g ≤ k ∧ D.length ≤ k ∧ Hid (zBG s k g D) ∧ Hid (wr.ownsRow w.heap.size 9 1 v D.length (zDd D)) ∧ Below w.heap.size w wr) (fun _ _ i _ => s.size + 1 - (intOf i).toNat)
 case atStart => exact ⟨0, 0, [], rfl, rfl, by omega, by omega, by simp, HS0, hid (World.ownsRow_nil _ _ _ _), Below.refl _ _⟩
 case round =>
  obtain ⟨k, g, D, rfl, rfl, hk, hg, hD, HI, Hown, hbr⟩ := hrel
  have hsz := hbr.size
  by_cases hlt : k < s.size
  ·have bx := (s[k]'hlt).toNat_lt
   have hke : (((k : Nat) : Int) == (s.size : Int)) = false := beq_eq_false_iff_ne.2 (by omega)
   by_cases h47 : (s[k]'hlt) = 47
   ·have e2 : (((s[k]'hlt).toNat : Int) == 47) = true := by rw [h47]; rfl
    have hI := hid (zId HI.out hlt h47)
    have hown := Hown.out
    clear h47
    go_wp2_with (at_builtin; refine zAH rfl _ _ 49 rfl w.heap.size 9 1 16 Tryz.underlying49 _ zHn rfl (by decide) _ _ _ rfl hown _ rfl [.string (s.extract g k)] rfl rfl (by simp [Value.oneCell']) ?c1 ?c2 ?c3 ?_)
    case c1 => unfold maxLen; omega
    case c2 => omega
    case c3 => exact hsz
    intro v' w3 hown3 hb3
    have Hown3 := hid (show w3.ownsRow w.heap.size 9 1 v' (D ++ [s.extract g k]).length (zDd (D ++ [s.extract g k])) by rw [zEl, List.length_append]; exact hown3)
    have hDl : (D ++ [s.extract g k]).length ≤ k + 1 := by rw [List.length_append]; simp; omega
    clear hown3 hown
    go_wp2
    go_roundw
    case rel => exact ⟨k + 1, k + 1, _, by go_num, by go_num, by omega, by omega, hDl, hI, Hown3, hbr.trans hb3⟩
    case measure => simp [intOf]; omega
   ·have e2 : (((s[k]'hlt).toNat : Int) == 47) = false := beq_eq_false_iff_ne.2 (fun e => zCQ h47 e)
    have hI := hid (zGr HI.out hlt h47)
    clear h47
    go_wp2
    go_roundw
    case rel => exact ⟨k + 1, g, D, by go_num, rfl, by omega, by omega, by omega, hI, Hown, hbr⟩
    case measure => simp [intOf]; omega
  ·by_cases hke : k = s.size
   ·have hkb : (((k : Nat) : Int) == (s.size : Int)) = true := by rw [hke]; simp
    have hI := hid (show zBG s (k + 1) (k + 1) (D ++ [s.extract g k]) by rw [hke]; rw [hke] at HI; exact zHO HI.out)
    have hown := Hown.out
    have hks : k ≤ s.size := by omega
    clear hke
    go_wp2_with (at_builtin; refine zAH rfl _ _ 49 rfl w.heap.size 9 1 16 Tryz.underlying49 _ zHn rfl (by decide) _ _ _ rfl hown _ rfl [.string (s.extract g k)] rfl rfl (by simp [Value.oneCell']) ?c1 ?c2 ?c3 ?_)
    case c1 => unfold maxLen; omega
    case c2 => omega
    case c3 => exact hsz
    intro v' w3 hown3 hb3
    have Hown3 := hid (show w3.ownsRow w.heap.size 9 1 v' (D ++ [s.extract g k]).length (zDd (D ++ [s.extract g k])) by rw [zEl, List.length_append]; exact hown3)
    have hDl : (D ++ [s.extract g k]).length ≤ k + 1 := by rw [List.length_append]; simp; omega
    clear hown3 hown
    go_wp2
    go_roundw
    case rel => exact ⟨k + 1, k + 1, _, by go_num, by go_num, by omega, by omega, hDl, hI, Hown3, hbr.trans hb3⟩
    case measure => simp [intOf]; omega
   ·have hp := hid (HI.out.2 (by omega))
    go_wp2
    go_ret
    exact ⟨_, D, rfl, Hown.out, by omega, hp.out, hbr⟩
theorem zJa (s : ByteArray) (w : World) (hs : s.size ≤ 9223372036854775807) :
  Calls Tryz.prog 71 #[.string s] w fun e w' => e = .returned (.int .i64 (pathE s)) ∧ Below w.heap.size w w' := by
 by_cases h2 : 200 < s.size
 ·have hE := hid (show pathE s = 4 by unfold pathE; rw [if_pos h2])
  go_enter Tryz.func71, Tryz.ntmps71
  go_wp2_with fail
  go_ret
  exact ⟨zAk hE.out.symm, Below.refl _ _⟩
 ·have hE := hid (show pathE s = if (pieces s.data.toList).all nameL = true then 0 else 10 by unfold pathE; rw [if_neg h2])
  have HN := hid (zIh s w (by omega))
  go_enter Tryz.func71, Tryz.ntmps71
  go_wp2_with fail
  refine HN.out.mono ?_
  rintro e w1 ⟨v, ps, rfl, hown, hlen, hpc, hb1⟩
  obtain ⟨na, nc, hv, hat⟩ := zCs (ss := ps) hown
  subst hv
  have Hat := hid hat
  have Hpc := hid hpc
  have HB1 := hid hb1
  have HSZ := hid hb1.size
  clear hown hpc hat hb1 HN
  go_wp2_with fail
  go_loopw [4] (fun i wr => ∃ k : Nat, i = .int .i64 k ∧ k ≤ ps.length ∧ Hid (((ps.map (·.data.toList)).take k).all nameL = true) ∧ wr = w1) (fun i _ => ps.length - (intOf i).toNat)
  case atStart => exact ⟨0, rfl, Nat.zero_le _, hid rfl, rfl⟩
  case round =>
   obtain ⟨k, rfl, hk, Hok, rfl⟩ := hrel
   by_cases hkp : k < ps.length
   ·obtain ⟨b, off, rfl, hb, hcc⟩ := Hat.out.resolve_left (by intro h; rw [h] at hkp; simp at hkp)
    have hc := hcc k hkp
    have hm : (ps.map (·.data.toList))[k]'(by simpa using hkp) = ps[k].data.toList := by simp
    have hml : k < (ps.map (·.data.toList)).length := by simpa using hkp
    have HN := hid (zIH ps[k] wr)
    cases hb : nameL ps[k].data.toList with
    | true =>
     have hall := hid (all_take hml Hok.out (by rw [hm]; exact hb))
     rw [hb] at HN
     generalize ps[k] = pk at hc HN
     clear hb hm hcc
     go_wp2_with fail
     refine HN.out.mono ?_
     rintro e w2 ⟨rfl, rfl⟩
     go_wp2_with fail
     go_roundw
     case rel => exact ⟨k + 1, by go_num, by omega, hall, trivial⟩
     case measure => simp [intOf]; omega
    | false =>
     have hall := hid (all_bad hml (by rw [hm]; exact hb))
     rw [hb] at HN
     generalize ps[k] = pk at hc HN
     clear hb hm hcc
     go_wp2_with fail
     refine HN.out.mono ?_
     rintro e w2 ⟨rfl, rfl⟩
     go_wp2_with fail
     go_ret
     rw [Hpc.out] at hall
     have hf := hE.out
     rw [if_neg hall.out] at hf
     exact ⟨zAk hf.symm, HB1.out⟩
   ·go_wp2_with fail
    go_ret
    have hf := hE.out
    have hall := Hok.out
    rw [List.take_of_length_le (by simp; omega), Hpc.out] at hall
    rw [if_pos hall] at hf
    exact ⟨zAk hf.symm, HB1.out⟩
theorem ordR_cons (x y : UInt8) (a b : List UInt8) : ordR (x :: a) (y :: b) = if keyB x < keyB y then -1 else if keyB y < keyB x then 1 else ordR a b := by
 conv => lhs; unfold ordR
theorem ordR_lt (a b : List UInt8) (ha : a = []) (hb : 0 < b.length) : ordR a b = -1 := by
 subst ha
 cases b with
 | nil => simp at hb
 | cons x b => rfl
theorem ordR_gt (a b : List UInt8) (hb : b = []) (ha : 0 < a.length) : ordR a b = 1 := by
 subst hb
 cases a with
 | nil => simp at ha
 | cons x a => rfl
theorem ordR_nil (a b : List UInt8) (ha : a = []) (hb : b = []) : ordR a b = 0 := by subst ha; subst hb; rfl
theorem zHV (s : ByteArray) (k : Nat) (h : k < s.size) : (((s[k]'h).toNat : Int) == 47) = true ∧ keyB (s[k]'h) = 0 ∨ (((s[k]'h).toNat : Int) == 47) = false ∧ keyB (s[k]'h) = ((s[k]'h).toNat : Int) + 1 := by
 by_cases h47 : (s[k]'h) = 47
 ·exact Or.inl ⟨by rw [h47]; rfl, by unfold keyB; rw [if_pos h47]⟩
 ·exact Or.inr ⟨beq_eq_false_iff_ne.2 (fun e => zCQ h47 e), by unfold keyB; rw [if_neg h47]⟩
theorem zHm (a b : ByteArray) (w : World) (ha : a.size ≤ 9223372036854775807) (hb : b.size ≤ 9223372036854775807) :
  Calls Tryz.prog 72 #[.string a, .string b] w fun e w' => e = .returned (.int .i64 (ordR a.data.toList b.data.toList)) ∧ w = w' := by
 go_enter Tryz.func72, Tryz.ntmps72
 go_wp2
 go_loop [5, 6, 7] (fun i _ _ => ∃ k : Nat, i = .int .i64 k ∧ (k ≤ a.size ∨ k ≤ b.size) ∧ Hid (ordR a.data.toList b.data.toList = ordR (a.data.toList.drop k) (b.data.toList.drop k))) (fun i _ _ => max a.size b.size - (intOf i).toNat)
 case atStart => exact ⟨0, rfl, Or.inl (Nat.zero_le _), hid rfl⟩
 case round =>
  obtain ⟨k, rfl, hk, Hz⟩ := hrel
  have dnil : ∀ (s : ByteArray), ¬ k < s.size → s.data.toList.drop k = [] := fun s h => List.drop_of_length_le (by simp; omega)
  have dlen : ∀ (s : ByteArray), k < s.size → 0 < (s.data.toList.drop k).length := fun s h => by simp; omega
  by_cases hka : k < a.size
  ·have ka : (k : Int) < (a.size : Int) := by omega
   have ba := (a[k]'hka).toNat_lt
   by_cases hkb : k < b.size
   ·have kb : (k : Int) < (b.size : Int) := by omega
    have bb := (b[k]'hkb).toNat_lt
    have hz := hid (show ordR a.data.toList b.data.toList = _ by rw [Hz.out, zBZ a k hka, zBZ b k hkb, ordR_cons])
    rcases zHV a k hka with ⟨ea, qa⟩ | ⟨ea, qa⟩
    ·rcases zHV b k hkb with ⟨eb, qb⟩ | ⟨eb, qb⟩
     ·rw [qa, qb] at hz
      clear qa qb dnil dlen Hz
      rcases Int.lt_trichotomy ((0 : Int)) ((0 : Int)) with h | h | h
      ·first
       | (exfalso; omega)
       | (have hz2 := hid (hz.out.trans (if_pos h))
          clear hz
          go_wp2
          go_ret
          exact ⟨zAk hz2.out.symm, rfl⟩)
      ·have h1 : ¬ ((0 : Int)) < ((0 : Int)) := by omega
       have h2 : ¬ ((0 : Int)) < ((0 : Int)) := by omega
       first
       | (exfalso; omega)
       | (have hz2 := hid ((hz.out.trans (if_neg h1)).trans (if_neg h2))
          clear hz
          go_wp2
          go_round
          case rel => exact ⟨k + 1, by go_num, by omega, hz2⟩
          case measure => simp [intOf]; omega)
      ·have h1 : ¬ ((0 : Int)) < ((0 : Int)) := by omega
       first
       | (exfalso; omega)
       | (have hz2 := hid ((hz.out.trans (if_neg h1)).trans (if_pos h))
          clear hz
          go_wp2
          go_ret
          exact ⟨zAk hz2.out.symm, rfl⟩)
     ·rw [qa, qb] at hz
      clear qa qb dnil dlen Hz
      rcases Int.lt_trichotomy ((0 : Int)) (((b[k]'hkb).toNat : Int) + 1) with h | h | h
      ·first
       | (exfalso; omega)
       | (have hz2 := hid (hz.out.trans (if_pos h))
          clear hz
          go_wp2
          go_ret
          exact ⟨zAk hz2.out.symm, rfl⟩)
      ·have h1 : ¬ ((0 : Int)) < (((b[k]'hkb).toNat : Int) + 1) := by omega
       have h2 : ¬ (((b[k]'hkb).toNat : Int) + 1) < ((0 : Int)) := by omega
       first
       | (exfalso; omega)
       | (have hz2 := hid ((hz.out.trans (if_neg h1)).trans (if_neg h2))
          clear hz
          go_wp2
          go_round
          case rel => exact ⟨k + 1, by go_num, by omega, hz2⟩
          case measure => simp [intOf]; omega)
      ·have h1 : ¬ ((0 : Int)) < (((b[k]'hkb).toNat : Int) + 1) := by omega
       first
       | (exfalso; omega)
       | (have hz2 := hid ((hz.out.trans (if_neg h1)).trans (if_pos h))
          clear hz
          go_wp2
          go_ret
          exact ⟨zAk hz2.out.symm, rfl⟩)
    ·rcases zHV b k hkb with ⟨eb, qb⟩ | ⟨eb, qb⟩
     ·rw [qa, qb] at hz
      clear qa qb dnil dlen Hz
      rcases Int.lt_trichotomy (((a[k]'hka).toNat : Int) + 1) ((0 : Int)) with h | h | h
      ·first
       | (exfalso; omega)
       | (have hz2 := hid (hz.out.trans (if_pos h))
          clear hz
          go_wp2
          go_ret
          exact ⟨zAk hz2.out.symm, rfl⟩)
      ·have h1 : ¬ (((a[k]'hka).toNat : Int) + 1) < ((0 : Int)) := by omega
       have h2 : ¬ ((0 : Int)) < (((a[k]'hka).toNat : Int) + 1) := by omega
       first
       | (exfalso; omega)
       | (have hz2 := hid ((hz.out.trans (if_neg h1)).trans (if_neg h2))
          clear hz
          go_wp2
          go_round
          case rel => exact ⟨k + 1, by go_num, by omega, hz2⟩
          case measure => simp [intOf]; omega)
      ·have h1 : ¬ (((a[k]'hka).toNat : Int) + 1) < ((0 : Int)) := by omega
       first
       | (exfalso; omega)
       | (have hz2 := hid ((hz.out.trans (if_neg h1)).trans (if_pos h))
          clear hz
          go_wp2
          go_ret
          exact ⟨zAk hz2.out.symm, rfl⟩)
     ·rw [qa, qb] at hz
      clear qa qb dnil dlen Hz
      rcases Int.lt_trichotomy (((a[k]'hka).toNat : Int) + 1) (((b[k]'hkb).toNat : Int) + 1) with h | h | h
      ·first
       | (exfalso; omega)
       | (have hz2 := hid (hz.out.trans (if_pos h))
          clear hz
          go_wp2
          go_ret
          exact ⟨zAk hz2.out.symm, rfl⟩)
      ·have h1 : ¬ (((a[k]'hka).toNat : Int) + 1) < (((b[k]'hkb).toNat : Int) + 1) := by omega
       have h2 : ¬ (((b[k]'hkb).toNat : Int) + 1) < (((a[k]'hka).toNat : Int) + 1) := by omega
       first
       | (exfalso; omega)
       | (have hz2 := hid ((hz.out.trans (if_neg h1)).trans (if_neg h2))
          clear hz
          go_wp2
          go_round
          case rel => exact ⟨k + 1, by go_num, by omega, hz2⟩
          case measure => simp [intOf]; omega)
      ·have h1 : ¬ (((a[k]'hka).toNat : Int) + 1) < (((b[k]'hkb).toNat : Int) + 1) := by omega
       first
       | (exfalso; omega)
       | (have hz2 := hid ((hz.out.trans (if_neg h1)).trans (if_pos h))
          clear hz
          go_wp2
          go_ret
          exact ⟨zAk hz2.out.symm, rfl⟩)
   ·have hz := hid (Hz.out.trans (ordR_gt _ _ (dnil b hkb) (dlen a hka)))
    clear dnil dlen
    rcases zHV a k hka with ⟨ea, qa⟩ | ⟨ea, qa⟩
    all_goals
     clear qa
     go_wp2
     go_ret
     exact ⟨zAk hz.out.symm, rfl⟩
  ·by_cases hkb : k < b.size
   ·have kb : (k : Int) < (b.size : Int) := by omega
    have bb := (b[k]'hkb).toNat_lt
    have hz := hid (Hz.out.trans (ordR_lt _ _ (dnil a hka) (dlen b hkb)))
    clear dnil dlen
    rcases zHV b k hkb with ⟨eb, qb⟩ | ⟨eb, qb⟩
    all_goals
     clear qb
     go_wp2
     go_ret
     exact ⟨zAk hz.out.symm, rfl⟩
   ·have hz := hid (Hz.out.trans (ordR_nil _ _ (dnil a hka) (dnil b hkb)))
    clear dnil dlen
    go_wp2
    go_ret
    exact ⟨zAk hz.out.symm, rfl⟩
theorem zJh (s p : ByteArray) (h : p.size < s.size) : zAR s p = decide (s.extract 0 (p.size + 1) = p ++ ⟨#[47]⟩) := by
 rw [Bool.eq_iff_iff]
 simp only [zAR, decide_eq_true_eq]
 have hx : (s.extract 0 (p.size + 1)).data.toList = s.data.toList.take (p.size + 1) := by rw [zBA, List.drop_zero, Nat.sub_zero]
 have hp : (p ++ ⟨#[47]⟩ : ByteArray).data.toList = p.data.toList ++ [47] := by simp
 constructor
 ·rintro ⟨t, ht⟩
  apply ba_ext
  rw [hx, hp, ← ht, List.take_left' (by simp)]
 ·intro he
  refine ⟨s.data.toList.drop (p.size + 1), ?_⟩
  rw [← hp, ← he, hx, List.take_append_drop]
theorem zGk (s p : ByteArray) (w : World) (hs : s.size ≤ 9223372036854775807) (hp : p.size ≤ 9223372036854775807) :
  Calls Tryz.prog 73 #[.string s, .string p] w fun e w' => e = .returned (.bool (zAR s p)) ∧ w = w' := by
 by_cases h1 : p.size < s.size
 ·have hI := zJh s p h1
  have hno : ¬ 9223372036854775807 < p.size + (⟨#[47]⟩ : ByteArray).size := by
   have : (⟨#[47]⟩ : ByteArray).size = 1 := rfl
   omega
  by_cases h2 : s.extract 0 (p.size + 1) = p ++ ⟨#[47]⟩
  ·have q2 := zEC h2
   have hI2 := hid (show zAR s p = true by rw [hI, decide_eq_true h2])
   clear hI h2
   go_enter Tryz.func73, Tryz.ntmps73
   go_wp2
   go_ret
   exact ⟨zBa hI2.out.symm, rfl⟩
  ·have q2 := zIJ h2
   have hI2 := hid (show zAR s p = false by rw [hI, decide_eq_false h2])
   clear hI h2
   go_enter Tryz.func73, Tryz.ntmps73
   go_wp2
   go_ret
   exact ⟨zBa hI2.out.symm, rfl⟩
 ·have hI2 := hid (show zAR s p = false by rw [zFI s p, decide_eq_false h1]; rfl)
  go_enter Tryz.func73, Tryz.ntmps73
  go_wp2
  go_ret
  exact ⟨zBa hI2.out.symm, rfl⟩
theorem zHH (ad : Option Addr) (cap : Nat) (l : List ByteArray) (w : World) (h : zHZ w ad l) (hl : l.length ≤ 1000000) (hs : ∀ s ∈ l, s.size ≤ 9223372036854775807) :
  Calls Tryz.prog 42 #[.slice ad l.length cap] w fun e w' => e = .returned (.int .i64 (zAP l)) ∧ Below w.heap.size w w' := by
 have H := hid h
 have Hs := hid (show ∀ k (hk : k < l.length), l[k].size ≤ 9223372036854775807 from fun k hk => hs _ (List.getElem_mem hk))
 by_cases h256 : 256 < l.length
 ·have hE := hid (show zAP l = 7 by unfold zAP; rw [if_pos h256])
  clear h hs
  go_enter Tryz.func42, Tryz.ntmps42
  go_wp2_with fail
  go_ret
  exact ⟨zAk hE.out.symm, Below.refl _ _⟩
 ·have hE := hid (show zAP l = zAC (zBr l 0) (l.drop 0) by unfold zAP; rw [if_neg h256]; rfl)
  clear h hs
  go_enter Tryz.func42, Tryz.ntmps42
  go_wp2_with fail
  go_loopw [3, 4] (fun i _ wr => ∃ k : Nat, i = .int .i64 k ∧ k ≤ l.length ∧ Hid (zAP l = zAC (zBr l k) (l.drop k)) ∧ Below w.heap.size w wr) (fun i _ _ => l.length - (intOf i).toNat)
  case atStart => exact ⟨0, rfl, Nat.zero_le _, hE, Below.refl _ _⟩
  case round =>
   obtain ⟨k, rfl, hk, HE, hbr⟩ := hrel
   by_cases hlt : k < l.length
   ·have hat := zEb H.out hbr
    obtain ⟨b, off, rfl, hb, hc⟩ := hat.resolve_left (by intro h; rw [h] at hlt; simp at hlt)
    have hck := hc k hlt
    have HP := hid (zJa l[k] wr (Hs.out k hlt))
    by_cases hp0 : pathE l[k] = 0
    ·rw [hp0] at HP
     cases k with
     | zero =>
      have hE2 := hid (HE.out.trans (zEM hlt hp0))
      have hck : wr.cell? ⟨b, off, none⟩ = some (.string l[0]) := hc 0 hlt
      generalize l[0] = s at hck HP
      clear hp0 hc hat
      go_wp2_with fail
      refine HP.out.mono ?_
      rintro e w1 ⟨rfl, hb1⟩
      have hbr1 := zAd hbr hb1
      clear hck
      go_wp2_with fail
      go_quiet (fail)
      go_wp2_with fail
      go_quiet (fail)
      go_wp2_with fail
      go_roundw
      case rel => exact ⟨1, by go_num, by omega, hE2, below_drewN hbr1 _⟩
      case measure => simp [intOf]; omega
     | succ k =>
      have hlt' : k < l.length := by omega
      have hE2 := hid (HE.out.trans (zFP hlt hp0))
      have hcp := hc k hlt'
      have HO := hid (fun w1 => zHm l[k + 1] l[k] w1 (Hs.out (k + 1) hlt) (Hs.out k hlt'))
      have HW := hid (fun w1 => zGk l[k + 1] l[k] w1 (Hs.out (k + 1) hlt) (Hs.out k hlt'))
      have hE3 := hid (show zAP l = if ordR l[k + 1].data.toList l[k].data.toList < 0 then 12 else if l[k] = l[k + 1] ∨ zAR l[k + 1] l[k] = true then 9 else zAC (zBr l (k + 2)) (l.drop (k + 2)) by
       rw [hE2.out]
       simp only [(zGI l[k].data.toList l[k + 1].data.toList).1])
      clear hE2 hc hat hp0
      generalize ordR l[k + 1].data.toList l[k].data.toList = z at HO hE3
      generalize zAR l[k + 1] l[k] = wi at HW hE3
      have hcc := hid hck
      have hcq := hid hcp
      generalize hx : l[k + 1] = s at hck HP HO HW hcc hE3
      generalize hy : l[k] = p at hcp HO HW hcq hE3
      clear hx hy
      have e1 : ((k + 1 : Nat) : Int) - 1 = (k : Int) := by omega
      have ek : (0 : Int) < ((k + 1 : Nat) : Int) := by omega
      have ekk : (0 : Int) < (k : Int) + 1 := by omega
      go_wp2_with fail
      refine HP.out.mono ?_
      rintro e w1 ⟨rfl, hb1⟩
      have hbr1 := zAd hbr hb1
      have hcs : w1.cell? ⟨b, off + (k + 1), none⟩ = some (.string s) := (hb1.cell (p := ⟨b, off + (k + 1), none⟩) hb).trans hcc.out
      have hcp1 : w1.cell? ⟨b, off + k, none⟩ = some (.string p) := (hb1.cell (p := ⟨b, off + k, none⟩) hb).trans hcq.out
      clear hck hcp hcc hcq HP hb1 hbr
      go_wp2_with fail
      go_quiet ((go_at_call 72; first | exact zAf (HO.out _) | exact quiet_add_left (HO.out _)))
      have hbr2 := below_drewN hbr1 nq
      have hcs2 : (w1.drewN nq).cell? ⟨b, off + (k + 1), none⟩ = some (.string s) := hcs
      have hcp2 : (w1.drewN nq).cell? ⟨b, off + k, none⟩ = some (.string p) := hcp1
      generalize w1.drewN nq = w2 at hbr2 hcs2 hcp2 ⊢
      clear hbr1 hcs hcp1 HO
      by_cases hz1 : z < 0
      ·have hE4 := hid (hE3.out.trans (if_pos hz1))
       clear hE3
       go_wp2_with fail
       go_ret
       exact ⟨zAk hE4.out.symm, hbr2⟩
      ·by_cases heq : p = s
       ·have hE4 := hid ((hE3.out.trans (if_neg hz1)).trans (if_pos (Or.inl heq)))
        have q2 := zEC heq.symm
        clear hE3 heq
        go_wp2_with fail
        go_quiet (fail)
        go_wp2_with fail
        go_ret
        exact ⟨zAk hE4.out.symm, below_drewN hbr2 _⟩
       ·have q2 := zIJ (fun e => heq e.symm)
        have hE4 := hid (show zAP l = if wi = true then 9 else zAC (zBr l (k + 2)) (l.drop (k + 2)) by rw [hE3.out, if_neg hz1]; simp [heq])
        clear hE3 heq
        go_wp2_with fail
        go_quiet ((go_at_call 73; first | exact zAf (HW.out _) | exact quiet_add_left (HW.out _)))
        cases wi with
        | true =>
         rw [if_pos rfl] at hE4
         go_wp2_with fail
         go_ret
         exact ⟨zAk hE4.out.symm, below_drewN hbr2 _⟩
        | false =>
         rw [if_neg (by decide)] at hE4
         go_wp2_with fail
         go_roundw
         case rel => exact ⟨k + 2, by go_num, by omega, hE4, below_drewN hbr2 _⟩
         case measure => simp [intOf]; omega
    ·have hE2 := hid (HE.out.trans (zGR hlt hp0))
     generalize pathE l[k] = pe at HP hE2 hp0
     generalize l[k] = s at hck HP
     have hpb : (pe != 0) = true := by rw [bne_iff_ne]; exact hp0
     clear hp0 hc hat
     go_wp2_with fail
     refine HP.out.mono ?_
     rintro e w1 ⟨rfl, hb1⟩
     have hbr1 := zAd hbr hb1
     clear hck
     go_wp2_with fail
     go_ret
     exact ⟨zAk hE2.out.symm, hbr1⟩
   ·have hE2 := hid (HE.out.trans (zHq hlt))
    go_wp2_with fail
    go_ret
    exact ⟨zAk hE2.out.symm, hbr⟩
theorem zGU (ad : Option Addr) (cap : Nat) (fs : List TFile) (w : World) (h : TfsAt w ad fs) (hl : fs.length ≤ 1000) (hs : ∀ f ∈ fs, f.path.size ≤ 9223372036854775807 ∧ f.data.size ≤ 9223372036854775807) :
  Calls Tryz.prog 22 #[.slice ad fs.length cap] w fun e w' => e = .returned (.int .i64 (zAy fs)) ∧ Below w.heap.size w w' := by
 have H := hid h
 have Hs := hid hs
 clear h hs
 go_enter Tryz.func22, Tryz.ntmps22
 go_wp2_with fail
 go_loopw [3, 4] (fun nv i wr => ∃ k : Nat, i = .int .i64 k ∧ k ≤ fs.length ∧ Hid (wr.ownsRow w.heap.size 9 1 nv k (zBo fs k)) ∧ Below w.heap.size w wr) (fun _ i _ => fs.length - (intOf i).toNat)
 case atStart => exact ⟨0, rfl, Nat.zero_le _, hid (World.ownsRow_nil _ _ _ _), Below.refl _ _⟩
 case round =>
  obtain ⟨k, rfl, hk, Hown, hbr⟩ := hrel
  by_cases hlt : k < fs.length
  ·obtain ⟨b, off, rfl, hb, c0, c1, c2⟩ := (H.out.below hbr).get k hlt
   have hsn := hid (zFp fs k hlt)
   have hown := Hown.out
   have hsz := hbr.size
   generalize fs[k].path = p at c0 hsn
   go_wp2_with (at_builtin; refine zAH rfl _ _ 49 rfl w.heap.size 9 1 16 Tryz.underlying49 _ zEt rfl (by decide) _ _ _ rfl hown _ rfl [.string p] rfl rfl (by simp [Value.oneCell']) ?c1 ?c2 ?c3 ?_)
   case c1 => unfold maxLen; omega
   case c2 => omega
   case c3 => exact hsz
   intro v' w3 hown3 hb3
   have Hown3 := hid (show w3.ownsRow w.heap.size 9 1 v' (k + 1) (zBo fs (k + 1)) by rw [hsn.out]; exact hown3)
   clear hown3 hown Hown hsn
   go_wp2_with fail
   go_roundw
   case rel => exact ⟨k + 1, by go_num, by omega, Hown3, hbr.trans hb3⟩
   case measure => simp [intOf]; omega
  ·obtain rfl : k = fs.length := by omega
   have hown := Hown.out
   unfold zBo at hown
   rw [List.take_length] at hown
   have hml : (fs.map TFile.path).length = fs.length := by simp
   obtain ⟨na, nc, hv, hat⟩ := zCs (ss := fs.map TFile.path) (by rw [hml]; exact hown)
   subst hv
   have HP := hid (zHH na nc (fs.map TFile.path) wr hat (by omega) (fun s hs => by
    obtain ⟨f, hf, rfl⟩ := List.mem_map.1 hs
    exact (Hs.out f hf).1))
   rw [hml] at HP ⊢
   clear Hown hown hat
   by_cases hp0 : zAP (fs.map TFile.path) = 0
   ·have hE := hid (show zAy fs = zCy (fs.drop 0) by unfold zAy; rw [if_neg (fun hh => hh hp0)]; rfl)
    rw [hp0] at HP
    clear hp0
    go_wp2_with fail
    refine HP.out.mono ?_
    rintro e w1 ⟨rfl, hb1⟩
    have hbr1 := zAd hbr hb1
    clear HP hb1 hbr hlt hk
    go_wp2_with fail
    go_loopw [6] (fun i wr => ∃ k : Nat, i = .int .i64 k ∧ k ≤ fs.length ∧ Hid (zAy fs = zCy (fs.drop k)) ∧ Below w.heap.size w wr) (fun i _ => fs.length - (intOf i).toNat)
    case atStart => exact ⟨0, rfl, Nat.zero_le _, hE, hbr1⟩
    case round =>
     obtain ⟨k, rfl, hk, HE, hbr⟩ := hrel
     clear hbr1 hE
     by_cases hlt : k < fs.length
     ·obtain ⟨b, off, rfl, hb, c0, c1, c2⟩ := (H.out.below hbr).get k hlt
      have hE2 := hid (HE.out.trans (zFU hlt))
      generalize fs[k].path = p at c0
      generalize fs[k].mode = m at c1 hE2
      generalize fs[k].data = d at c2 hE2
      by_cases hm : m < 0
      ·have hE3 := hid (hE2.out.trans (if_pos (Or.inl hm)))
       clear hE2
       go_wp2_with fail
       go_ret
       exact ⟨zAk hE3.out.symm, hbr⟩
      ·by_cases hm2 : 511 < m
       ·have hE3 := hid (hE2.out.trans (if_pos (Or.inr hm2)))
        clear hE2
        go_wp2_with fail
        go_ret
        exact ⟨zAk hE3.out.symm, hbr⟩
       ·have hE3 := hid (hE2.out.trans (if_neg (by omega)))
        clear hE2
        by_cases hd : 65536 < d.size
        ·have hE4 := hid (hE3.out.trans (if_pos hd))
         clear hE3
         go_wp2_with fail
         go_ret
         exact ⟨zAk hE4.out.symm, hbr⟩
        ·have hE4 := hid (hE3.out.trans (if_neg hd))
         clear hE3
         go_wp2_with fail
         go_roundw
         case rel => exact ⟨k + 1, by go_num, by omega, hE4, hbr⟩
         case measure => simp [intOf]; omega
     ·have hE2 := hid (HE.out.trans (zHK hlt))
      go_wp2_with fail
      go_ret
      exact ⟨zAk hE2.out.symm, hbr⟩
   ·have hE := hid (show zAy fs = zAP (fs.map TFile.path) by unfold zAy; rw [if_pos hp0])
    generalize zAP (fs.map TFile.path) = pe at HP hE hp0
    have hpb : (pe != 0) = true := by rw [bne_iff_ne]; exact hp0
    clear hp0
    go_wp2_with fail
    refine HP.out.mono ?_
    rintro e w1 ⟨rfl, hb1⟩
    have hbr1 := zAd hbr hb1
    go_wp2_with fail
    go_ret
    exact ⟨zAk hE.out.symm, hbr1⟩
theorem zEr (n : Nat) : (cnT n).data.toList = cnL n := by simp [cnT]
theorem ba_of (s : ByteArray) (l : List UInt8) (h : s.data.toList = l) : s = ⟨l.toArray⟩ := ba_ext (by simpa using h)
theorem zDt (a b : ByteArray) : (a ++ b).data.toList = a.data.toList ++ b.data.toList := by simp
theorem zEu (a b : ByteArray) : (a ++ b).size = a.size + b.size := by simp
theorem zFv (ad : Option Addr) (cap : Nat) (fs : List TFile) (w : World) (h : TfsAt w ad fs) (hl : fs.length ≤ 8) (hs : ∀ f ∈ fs, f.path.size ≤ 9223372036854775807 ∧ f.data.size ≤ 2000) :
  Calls Tryz.prog 10 #[.slice ad fs.length cap] w fun e w' => ∃ s, e = .returned (.tuple #[.string s, .int .i64 (zAy fs)]) ∧ (zAy fs = 0 → s = ⟨(headL fs.length fs ++ bodyL fs).toArray⟩) ∧ Below w.heap.size w w' := by
 have H := hid h
 have Hs := hid hs
 have HC := hid (zGU ad cap fs w h (by omega) (fun f hf => ⟨(hs f hf).1, by have := (hs f hf).2; omega⟩))
 by_cases hc : zAy fs = 0
 ·have Hok := hid (zGl hc)
  rw [hc] at HC ⊢
  clear h hs hc
  go_enter Tryz.func10, Tryz.ntmps10
  go_wp2_with fail
  refine HC.out.mono ?_
  rintro e w1 ⟨rfl, hb1⟩
  clear HC
  go_wp2_with fail
  refine (zCF fs.length w1 (by omega)).mono ?_
  rintro e w2 ⟨rfl, hb2⟩
  have hb02 := zAd hb1 hb2
  have O0 := hid (show (cnT fs.length).data.toList = headL fs.length (fs.take 0) by rw [zEr]; simp [headL])
  clear hb1 hb2
  generalize cnT fs.length = o0 at O0 ⊢
  go_wp2_with fail
  go_loopw [5, 6, 7, 8] (fun ov i _ _ wr => ∃ (k : Nat) (o : ByteArray), i = .int .i64 k ∧ k ≤ fs.length ∧ ov = .string o ∧ Hid (o.data.toList = headL fs.length (fs.take k)) ∧ Below w.heap.size w wr) (fun _ i _ _ _ => fs.length - (intOf i).toNat)
  case atStart => exact ⟨0, o0, rfl, Nat.zero_le _, rfl, O0, hb02⟩
  case round =>
   obtain ⟨k, o, rfl, hk, rfl, HO, hbr⟩ := hrel
   clear O0 hb02
   have hlen : o.size ≤ 2000 := by
    have h1 := zDv (fs.take k) (fun f hf => ⟨Hok.out f (List.mem_of_mem_take hf), (Hs.out f (List.mem_of_mem_take hf)).2⟩)
    have h2 := zAI (n := fs.length) (by omega)
    have h3 : (fs.take k).length ≤ 8 := by rw [List.length_take]; omega
    have h4 : o.data.toList.length = o.size := by simp
    rw [HO.out] at h4
    unfold headL at h4
    rw [List.length_append] at h4
    omega
   by_cases hlt : k < fs.length
   ·obtain ⟨b, off, rfl, hb, c0, c1, c2⟩ := (H.out.below hbr).get k hlt
    have hf := Hok.out _ (List.getElem_mem hlt)
    have hf2 := (Hs.out _ (List.getElem_mem hlt)).2
    have hsn := hid (show headL fs.length (fs.take (k + 1)) = _ by rw [List.take_succ_eq_append_getElem hlt, zFT, ← HO.out])
    obtain ⟨m, hm⟩ := Int.eq_ofNat_of_zero_le hf.2.1
    have hm2 : fs[k].mode.toNat = m := by rw [hm]; rfl
    rw [hm2] at hsn
    rw [hm] at c1
    have hm511 : m ≤ 511 := by have := hf.2.2; omega
    have hp200 := hf.1
    generalize fs[k].path = p at c0 hsn hp200
    generalize fs[k].data = d at c2 hsn hf2
    have l1 := zDu (n := p.size) (by omega)
    have l2 := zDu (n := m) (by omega)
    have l3 := zDu (n := d.size) (by omega)
    clear hm hm2 hf
    have HT := hid (zJx p wr (by omega))
    go_wp2_with fail
    refine HT.out.mono ?_
    rintro e w3 ⟨rfl, hb3⟩
    have hbr3 := zAd hbr hb3
    have d1 : w3.cell? ⟨b, off + k * 3 + 1, none⟩ = some (.int .i64 (m : Int)) := (hb3.cell (p := ⟨b, off + k * 3 + 1, none⟩) hb).trans c1
    have d2 : w3.cell? ⟨b, off + k * 3 + 2, none⟩ = some (.string d) := (hb3.cell (p := ⟨b, off + k * 3 + 2, none⟩) hb).trans c2
    have hb3l : b < w3.heap.size := Nat.lt_of_lt_of_le hb hb3.size
    have ht := hid (show ((o ++ (cnT p.size ++ p)) ++ cnT m ++ cnT d.size).data.toList = headL fs.length (fs.take (k + 1)) by
     rw [hsn.out, zDt, zDt, zDt, zDt, zEr, zEr, zEr]; simp)
    have hts := zEu (cnT p.size) p
    generalize cnT p.size ++ p = tp at ht hts ⊢
    have hs1 := zEu o tp
    generalize ho1 : o ++ tp = o1 at ht hs1
    have hs2 := zEu o1 (cnT m)
    generalize ho2 : o1 ++ cnT m = o2 at ht hs2
    have n1 : ¬ 9223372036854775807 < o.size + tp.size := by omega
    have n2 : ¬ 9223372036854775807 < o1.size + (cnT m).size := by omega
    have n3 : ¬ 9223372036854775807 < o2.size + (cnT d.size).size := by omega
    have hmb : m ≤ 4611686018427387903 := by omega
    have hdb : d.size ≤ 4611686018427387903 := by omega
    clear HT c0 c1 c2 hb hbr hb3 hts hs1 hs2 hsn HO l1 l2 l3
    have HKC := hid (show ∀ w', Below w3.heap.size w3 w' → w'.cell? ⟨b, off + k * 3 + 1, none⟩ = some (.int .i64 (m : Int)) ∧ w'.cell? ⟨b, off + k * 3 + 2, none⟩ = some (.string d) from fun w' hb => ⟨(hb.cell (p := ⟨b, off + k * 3 + 1, none⟩) hb3l).trans d1, (hb.cell (p := ⟨b, off + k * 3 + 2, none⟩) hb3l).trans d2⟩)
    go_wp2_with fail
    go_region_held3 (fun w' => w'.cell? ⟨b, off + k * 3 + 1, none⟩ = some (.int .i64 (m : Int)) ∧ w'.cell? ⟨b, off + k * 3 + 2, none⟩ = some (.string d))
     (first | exact HKC.out _ (by assumption) | exact HKC.out _ (Below.refl _ _).drew | go_keep)
     ((go_at_call 23; refine (zCF _ _ (by assumption)).mono ?_; rintro e wa ⟨rfl, hba⟩; have hba2 : Below w3.heap.size w3 wa := by (first | exact zAd (by assumption) hba | exact zAd ((Below.refl _ _).drew) hba)))
    have hbr4 := zAd hbr3 hba2
    clear hbr3 hba2 hba
    go_wp2_with fail
    go_roundw
    case rel => exact ⟨k + 1, _, by go_num, by omega, rfl, ht, hbr4⟩
    case measure => simp [intOf]; omega
   ·obtain rfl : k = fs.length := by omega
    have O2 := hid (show o.data.toList = headL fs.length fs ++ bodyL (fs.take 0) by
     have h := HO.out
     rw [List.take_length] at h
     rw [h]
     simp [bodyL])
    have hlen2 : (headL fs.length fs).length ≤ 2000 := by
     have h := HO.out
     rw [List.take_length] at h
     rw [← h]
     simpa using hlen
    clear HO hlen hk hlt
    go_wp2_with fail
    go_loopw [5, 9] (fun ov i wr => ∃ (k : Nat) (o : ByteArray), i = .int .i64 k ∧ k ≤ fs.length ∧ ov = .string o ∧ Hid (o.data.toList = headL fs.length fs ++ bodyL (fs.take k)) ∧ Below w.heap.size w wr) (fun _ i _ => fs.length - (intOf i).toNat)
    case atStart => exact ⟨0, o, rfl, Nat.zero_le _, rfl, O2, hbr⟩
    case round =>
     clear O2 hbr
     obtain ⟨k, o, rfl, hk, rfl, HO, hbr⟩ := hrel
     have hlen : o.size ≤ 18000 := by
      have h1 := zDp (fs.take k) (fun f hf => (Hs.out f (List.mem_of_mem_take hf)).2)
      have h3 : (fs.take k).length ≤ 8 := by rw [List.length_take]; omega
      have h4 : o.data.toList.length = o.size := by simp
      rw [HO.out, List.length_append] at h4
      omega
     by_cases hlt : k < fs.length
     ·obtain ⟨b, off, rfl, hb, c0, c1, c2⟩ := (H.out.below hbr).get k hlt
      have hf2 := (Hs.out _ (List.getElem_mem hlt)).2
      have hsn := hid (show (o ++ fs[k].data).data.toList = headL fs.length fs ++ bodyL (fs.take (k + 1)) by rw [List.take_succ_eq_append_getElem hlt, zFJ, zDt, HO.out, List.append_assoc])
      generalize fs[k].data = d at c2 hsn hf2
      have n1 : ¬ 9223372036854775807 < o.size + d.size := by omega
      have hos := zEu o d
      generalize ho1 : o ++ d = o1 at hsn hos
      have n2 : o1.size ≤ 524288 := by omega
      clear hos hlen hf2 HO c0 c1
      go_wp2_with fail
      go_roundw
      case rel => exact ⟨k + 1, o1, by go_num, by omega, rfl, hsn, hbr⟩
      case measure => simp [intOf]; omega
     ·obtain rfl : k = fs.length := by omega
      have hs := hid (show o = ⟨(headL fs.length fs ++ bodyL fs).toArray⟩ from ba_of _ _ (by
       have h := HO.out
       rw [List.take_length] at h
       exact h))
      clear HO hlen
      go_wp2_with fail
      go_ret2
      exact ⟨o, rfl, fun _ => hs.out, hbr⟩
 ·have hcb : (zAy fs != 0) = true := by rw [bne_iff_ne]; exact hc
  have Hc := hid hc
  generalize zAy fs = ce at HC hcb Hc ⊢
  clear h hs hc
  go_enter Tryz.func10, Tryz.ntmps10
  go_wp2_with fail
  refine HC.out.mono ?_
  rintro e w1 ⟨rfl, hb1⟩
  go_wp2_with fail
  go_ret2
  exact ⟨_, rfl, fun h => absurd h Hc.out, hb1⟩
theorem img_ba (fs : List TFile) : (⟨(headL fs.length fs ++ bodyL fs).toArray⟩ : ByteArray) = ba (imgT fs) := rfl
def MarkSays (mk : ByteArray) (gk : Int) (gm : ByteArray) : Prop := mk = ⟨#[]⟩ ∨ (gk = 1 ∧ mk = gm)
theorem zJj (n : Int) (sa : Option Addr) (sl sc : Nat) (w : World) (hs : zHP w sa sl) (hsl : sl ≤ maxLen) :
  Calls Tryz.prog 3 #[.int .i64 n, .slice sa sl sc] w fun e w' => e = .returned (.bool true) ∧ Below w.heap.size w w' := by
 have Hs := hid hs
 unfold maxLen at hsl
 clear hs
 by_cases hn : 1 ≤ n ∧ n ≤ 9
 ·obtain ⟨N, rfl⟩ : ∃ N : Nat, n = N := ⟨n.toNat, by omega⟩
  have hn1 : 1 ≤ N := by omega
  have hn9 : N ≤ 9 := by omega
  go_enter Tryz.func3, Tryz.ntmps3
  go_wp2_with fail
  refine (fresh_L 0 (N : Int) 1 _ (by unfold NewOk BalOk; omega)).mono ?_
  rintro e w1 ⟨wb, kb, mb, c, t, rfl, hW, hbk, hc, ht, hwb0, hc0, ht0, hm0, hb1⟩
  have HI := hid (lw_start hn1 hn9 True 0 ⟨#[]⟩ hW hbk hc ht hwb0 hc0 ht0 hm0 hb1)
  have hz1 := hb1.size
  clear hW hbk hc ht hb1 hwb0 hc0 ht0 hn hm0
  go_wp2_with fail
  go_loopw [6, 7] (fun kv iv wr => ∃ (mk gm : ByteArray) (kd : Int) (i : Nat) (T : List Tl) (L : List MG) (sv : Value), kv = .string mk ∧ iv = .int .i64 (i : Int) ∧ i ≤ sl ∧ i ≤ 60 ∧ T.length ≤ 585 * i ∧ Hid (MarkSays mk kd gm) ∧ Hid (Lw w c wb kb mb N 0 (1 * 4 + 0) True kd gm (9437214 * i) (585 * i) T L sv wr)) (fun _ iv _ => 60 - (intOf iv).toNat)
  case atStart => exact ⟨⟨#[]⟩, ⟨#[]⟩, 0, 0, [], [], _, rfl, rfl, by omega, by omega, by simp, hid (Or.inl rfl), HI⟩
  case round =>
   obtain ⟨mk, gm, kd, i, T, L, sv, rfl, rfl, hi, hi60, hTl, HM, HX⟩ := hrel
   clear HI
   by_cases hlt : i < sl ∧ i < 60
   ·obtain ⟨hlt1, hlt2⟩ := hlt
    have hbw : Below w.heap.size w wr := by obtain ⟨_, _, g⟩ := HX.out.gs; exact g.gf.below
    rcases Hs.out with h0 | ⟨b, off, rfl, hb, hops⟩
    ·exact absurd h0 (by omega)
    obtain ⟨ok, fr, m, es, tx, ck, cg, fa, fc, fs, hcell, hok⟩ := hops i hlt1
    have hrg := hid (show wr.rangeAt b (off + i * 20) [.int .i64 ok, .int .i64 fr, .int .i64 m.k, .int .i64 m.fr, .int .i64 m.to_, .int .i64 m.bal, .int .i64 m.gen, .int .i64 m.bas, .int .i64 m.fl, .int .i64 m.tp, .int .i64 m.rd, .string m.mrk, .int .i64 m.pa, .int .i64 m.po, .string m.pt, .slice m.la m.ll m.lc, .string tx, .int .i64 ck, .int .i64 cg, .slice fa fs.length fc] from fun j v hv => (hbw.cell (p := ⟨b, off + i * 20 + j, none⟩) hb).trans (hcell j v hv))
    have hinf : (Tryz.prog.info? 35).map (·.size) = some 20 := by kernel_rfl
    have HOk := hid hok
    clear hops hb hcell hok
    go_upto_region 8 with fail
    apply wp_region_lit
    iterate 9 go_step
    refine wpList_load_mid rfl 35 _ rfl b (off + i * 20) rfl _ _ hrg.out Tryz.underlying35 rfl hinf ?_
    iterate 3 go_step
    have ZA := Blk.new wr [.int .i64 0, .int .i64 0, .int .i64 0, .int .i64 0, .int .i64 0, .int .i64 0, .int .i64 0, .int .i64 0, .int .i64 0, .int .i64 0, .int .i64 0, .string ⟨#[]⟩, .int .i64 0, .int .i64 0, .string ⟨#[]⟩, .slice none 0 0, .string ⟨#[]⟩, .int .i64 0, .int .i64 0, .slice none 0 0] 35
    have hzA := (Below.refl wr.heap.size wr).alloc (Nat.le_refl _) (.cells #[.int .i64 0, .int .i64 0, .int .i64 0, .int .i64 0, .int .i64 0, .int .i64 0, .int .i64 0, .int .i64 0, .int .i64 0, .int .i64 0, .int .i64 0, .string ⟨#[]⟩, .int .i64 0, .int .i64 0, .string ⟨#[]⟩, .slice none 0 0, .string ⟨#[]⟩, .int .i64 0, .int .i64 0, .slice none 0 0] 35)
    refine wpList_store_mid rfl 35 _ _ rfl wr.heap.size 0 _ rfl rfl ZA.there hinf (by simp [Value.oneCell']) ?_
    have QA := ZA.setAll [.int .i64 ok, .int .i64 fr, .int .i64 m.k, .int .i64 m.fr, .int .i64 m.to_, .int .i64 m.bal, .int .i64 m.gen, .int .i64 m.bas, .int .i64 m.fl, .int .i64 m.tp, .int .i64 m.rd, .string m.mrk, .int .i64 m.pa, .int .i64 m.po, .string m.pt, .slice m.la m.ll m.lc, .string tx, .int .i64 ck, .int .i64 cg, .slice fa fs.length fc] rfl
    have hbA := below_setCells hzA (Nat.le_refl wr.heap.size) 0 [.int .i64 ok, .int .i64 fr, .int .i64 m.k, .int .i64 m.fr, .int .i64 m.to_, .int .i64 m.bal, .int .i64 m.gen, .int .i64 m.bas, .int .i64 m.fl, .int .i64 m.tp, .int .i64 m.rd, .string m.mrk, .int .i64 m.pa, .int .i64 m.po, .string m.pt, .slice m.la m.ll m.lc, .string tx, .int .i64 ck, .int .i64 cg, .slice fa fs.length fc]
    generalize (wr.alloc (.cells #[.int .i64 0, .int .i64 0, .int .i64 0, .int .i64 0, .int .i64 0, .int .i64 0, .int .i64 0, .int .i64 0, .int .i64 0, .int .i64 0, .int .i64 0, .string ⟨#[]⟩, .int .i64 0, .int .i64 0, .string ⟨#[]⟩, .slice none 0 0, .string ⟨#[]⟩, .int .i64 0, .int .i64 0, .slice none 0 0] 35)).setCells wr.heap.size 0 [.int .i64 ok, .int .i64 fr, .int .i64 m.k, .int .i64 m.fr, .int .i64 m.to_, .int .i64 m.bal, .int .i64 m.gen, .int .i64 m.bas, .int .i64 m.fl, .int .i64 m.tp, .int .i64 m.rd, .string m.mrk, .int .i64 m.pa, .int .i64 m.po, .string m.pt, .slice m.la m.ll m.lc, .string tx, .int .i64 ck, .int .i64 cg, .slice fa fs.length fc] = w2 at QA hbA ⊢
    have HLw := hid (HX.out.quiet hbA)
    have HQ0 := hid QA
    have hq0 : w.heap.size ≤ wr.heap.size := hbw.size
    clear ZA hzA QA hbA HX hrg hinf
    generalize wr.heap.size = q at HQ0 hq0 ⊢
    have HQ := hid HQ0.out
    clear HQ0
    go_upto_region 9 with fail
    have hbw2 : Below w.heap.size w w2 := by obtain ⟨_, _, g⟩ := HLw.out.gs; exact g.gf.below
    have p0 : w2.cell? ⟨q, 0, none⟩ = some (.int .i64 ok) := HQ.out.cell 0
    have p17 : w2.cell? ⟨q, 17, none⟩ = some (.int .i64 ck) := HQ.out.cell 17
    have p18 : w2.cell? ⟨q, 18, none⟩ = some (.int .i64 cg) := HQ.out.cell 18
    have p19 : w2.cell? ⟨q, 19, none⟩ = some (.slice fa fs.length fc) := HQ.out.cell 19
    have hql := HQ.out.lt
    go_upto_if 35 with (fail)
    go_cut [6] (fun kv wx => ∃ (mk2 gm2 : ByteArray) (kd2 : Int), kv = .string mk2 ∧ Hid (MarkSays mk2 kd2 gm2) ∧ Hid (Lw w c wb kb mb N 0 (1 * 4 + 0) True kd2 gm2 (9437214 * i + 1) (585 * i) T L sv wx) ∧ Hid (Blk wx q [.int .i64 ok, .int .i64 fr, .int .i64 m.k, .int .i64 m.fr, .int .i64 m.to_, .int .i64 m.bal, .int .i64 m.gen, .int .i64 m.bas, .int .i64 m.fl, .int .i64 m.tp, .int .i64 m.rd, .string m.mrk, .int .i64 m.pa, .int .i64 m.po, .string m.pt, .slice m.la m.ll m.lc, .string tx, .int .i64 ck, .int .i64 cg, .slice fa fs.length fc] 35))
    case first =>
     by_cases k3 : ok = 3
     ·have e3 : (ok == 3) = true := by rw [beq_iff_eq]; exact k3
      have HFz := hid HOk.out.sizes
      have HFw := hid (show zBH (fewL fs) from ⟨by rw [zGA]; omega, fun f hf => ⟨by have := (zGF HFz.out f hf).1; unfold maxLen at this; omega, (zGF HFz.out f hf).2⟩⟩)
      have HFew := hid (few_any ck cg fa fc fs w2 (HOk.out.files.below hbw2) (by have := HOk.out.fcap; omega))
      clear k3
      go_wp2_with fail
      refine HFew.out.mono ?_
      rintro e w3 ⟨x, y, rfl, hrow, hb3⟩
      have HL3 := hid (HLw.out.quiet hb3)
      have HQ3 := hid (HQ.out.below hb3)
      have HR3 := hid hrow
      obtain ⟨fl, hfl⟩ : ∃ fl, fl = fewL fs := ⟨_, rfl⟩
      rw [← hfl] at HR3 HFw ⊢
      clear p0 p17 p18 p19 hql HLw HQ hrow hb3 HFew hfl hbw2
      have hbB := (Below.refl w3.heap.size w3).alloc (Nat.le_refl _) (.cells #[.int .i64 ck, .int .i64 cg, .slice x fl.length y] 33)
      have KB := Blk.new w3 [.int .i64 ck, .int .i64 cg, .slice x fl.length y] 33
      go_upto_region 11 with fail
      generalize w3.alloc (.cells #[.int .i64 ck, .int .i64 cg, .slice x fl.length y] 33) = w4 at hbB KB ⊢
      generalize w3.heap.size = q9 at KB ⊢
      have L4 := HL3.out.quiet hbB
      obtain ⟨av4, hW4, _, _⟩ := L4.world
      have c04 : w4.cell? ⟨wb, 0, none⟩ = some (.pointer (some ⟨c, 0, none⟩)) := hW4.cell 0
      have s0 : w4.cell? ⟨q9, 0, none⟩ = some (.int .i64 ck) := KB.cell 0
      have s1 : w4.cell? ⟨q9, 1, none⟩ = some (.int .i64 cg) := KB.cell 1
      have s2 : w4.cell? ⟨q9, 2, none⟩ = some (.slice x fl.length y) := KB.cell 2
      have hkl := KB.lt
      have hwl4 := hW4.lt
      have HL5 := hid (L4.quiet (Below.refl _ _).drew)
      have HQ5 := hid ((HQ3.out.below hbB).drew)
      have HK5 := hid KB.drew
      have HR5 := hid (zAc (zAc HR3.out hbB) (Below.refl _ _).drew)
      have HAsk := hid (lw_ask HL5.out ck cg x y fl _ HR5.out HFw.out (fun r v => ∃ x ∈ T, zAE v r x = true))
      clear hbB KB HL3 HQ3 HR3 L4 hW4
      go_still_tail 5, (by kernel_rfl)
      change wpList _ _ _ _ _ w4.drew
      clear c04 s0 s1 s2 hkl hwl4
      generalize w4.drew = w5 at HL5 HQ5 HK5 HR5 HAsk ⊢
      go_wp2_with fail
      refine HAsk.out.mono ?_
      rintro e w6 hd
      rcases hd with ⟨er, her, rfl, hb6⟩ | ⟨rfl, hf6, hk6, hr6, hg6⟩
      ·have e0 : (er == 0) = false := beq_eq_false_iff_ne.2 her
       have HO := hid (And.intro ((HL5.out.quiet hb6).upto (Nat.le_add_right _ 1) (Nat.le_refl _)) (HQ5.out.below hb6))
       clear her hb6 HL5 HQ5 HK5 HR5 HAsk
       go_wp2_with fail
       go_meet
       exact ⟨mk, gm, kd, rfl, HM, hid HO.out.1, hid HO.out.2⟩
      ·have HR6 := hid (zDs (hk6.2 _ _ _ _ _ _ (by decide) HR5.out))
       have HK6 := hid (hk6.1 _ _ _ (by decide) HK5.out)
       have HQ6 := hid (hf6.1.1 _ _ _ (by decide) HQ5.out)
       have HRef := hid (zFv x y fl w6 HR6.out HFw.out.1 HFw.out.2)
       have HLr := hid hr6
       have HG6 := hid hg6
       have HS := hid (And.intro HL5.out.sent (And.intro HL5.out.sentL HL5.out.wb0))
       have k0 : w6.cell? ⟨q9, 0, none⟩ = some (.int .i64 ck) := HK6.out.cell 0
       have k2 : w6.cell? ⟨q9, 2, none⟩ = some (.slice x fl.length y) := HK6.out.cell 2
       clear hf6 hk6 hr6 hg6 HL5 HQ5 HK5 HR5 HAsk HR6
       go_wp2_with fail
       refine HRef.out.mono ?_
       rintro e w7 ⟨s, rfl, hs, hb7⟩
       have HK7 := hid (HK6.out.below hb7)
       have HQ7 := hid (HQ6.out.below hb7)
       have HLr7 := hid (show LwR w c wb kb N 0 T L sv w7 by
        obtain ⟨av, b1, b2, b3⟩ := HLr.out
        exact ⟨av, b1.below hb7, zAc b2 hb7, zAc b3 hb7⟩)
       have HB7 := hid hb7
       have k07 : w7.cell? ⟨q9, 0, none⟩ = some (.int .i64 ck) := HK7.out.cell 0
       have Hs := hid hs
       clear k0 k2 HRef HK6 HQ6 HLr hb7 hs
       by_cases hk1 : ck = 1
       ·have e1 : (ck == 1) = true := by rw [beq_iff_eq]; exact hk1
        by_cases hce : zAy fl = 0
        ·have e2 : (zAy fl == 0) = true := by rw [beq_iff_eq]; exact hce
         have hsz := zFM HFw.out.1 (fun f hf => (HFw.out.2 f hf).2) hce
         have hw7 : zDA w c kb mb N 0 (1 * 4 + 0) (zCt True T 1 ⟨#[]⟩ (9437214 * i)) (585 * i) 1 fl w7 := by
          rcases HG6.out with h | ⟨h, _⟩
          ·rw [hk1] at h
           exact h.quiet HB7.out
          ·exact absurd hce (h hk1)
         have hse := Hs.out hce
         rw [img_ba] at hse
         subst hse
         have HMk := hid (hw7.mark HFw.out (by omega) (by rw [zAl]; unfold maxLen; have : (imgL fl).length = (imgT fl).length := rfl; omega))
         have hcell : w7.cell? ⟨wb, 1, none⟩ = some (.pointer (some ⟨kb, 0, none⟩)) := by
          obtain ⟨av, b1, _, _⟩ := HLr7.out
          exact b1.cell 1
         have hwl7 := HLr7.out.choose_spec.1.lt
         clear hk1 hce hsz hw7 HG6 HB7 Hs
         go_wp2_with fail
         refine HMk.out.mono ?_
         rintro e w8 ⟨r, rfl, hg8, hk8, hf8⟩
         have HO := hid (show Lw w c wb kb mb N 0 (1 * 4 + 0) True 1 r (9437214 * i + 1) (585 * i) T L sv w8 ∧ _ from And.intro ⟨hg8, LwR.fr HLr7.out hf8, HS.out.1, HS.out.2.1, HS.out.2.2⟩ (hk8.1 _ _ _ (by decide) HQ7.out))
         clear hg8 hk8 hf8 HLr7 HQ7 HMk hcell hwl7 k07
         go_wp2_with fail
         go_meet
         exact ⟨r, r, 1, rfl, hid (Or.inr ⟨rfl, rfl⟩), hid HO.out.1, hid HO.out.2⟩
        ·have e2 : (zAy fl == 0) = false := beq_eq_false_iff_ne.2 hce
         have HO := hid (show Lw w c wb kb mb N 0 (1 * 4 + 0) True ck ⟨#[]⟩ (9437214 * i) (585 * i) T L sv w7 from ⟨by
          rcases HG6.out with h | ⟨_, h⟩
          ·exact (h.close HFw.out rfl (fun e => hce e.2.1)).quiet HB7.out
          ·exact h.quiet HB7.out, HLr7.out, HS.out.1, HS.out.2.1, HS.out.2.2⟩)
         clear hk1 hce HG6 HB7 Hs HLr7
         go_wp2_with fail
         go_meet
         exact ⟨⟨#[]⟩, ⟨#[]⟩, ck, rfl, hid (Or.inl rfl), hid (HO.out.upto (Nat.le_add_right _ 1) (Nat.le_refl _)), HQ7⟩
       ·have e1 : (ck == 1) = false := beq_eq_false_iff_ne.2 hk1
        have HO := hid (show Lw w c wb kb mb N 0 (1 * 4 + 0) True ck ⟨#[]⟩ (9437214 * i) (585 * i) T L sv w7 from ⟨by
         rcases HG6.out with h | ⟨_, h⟩
         ·exact (h.close HFw.out rfl (fun e => hk1 e.1)).quiet HB7.out
         ·exact h.quiet HB7.out, HLr7.out, HS.out.1, HS.out.2.1, HS.out.2.2⟩)
        clear hk1 HG6 HB7 Hs HLr7
        go_wp2_with fail
        go_meet
        exact ⟨⟨#[]⟩, ⟨#[]⟩, ck, rfl, hid (Or.inl rfl), hid (HO.out.upto (Nat.le_add_right _ 1) (Nat.le_refl _)), HQ7⟩
     ·have e3 : (ok == 3) = false := beq_eq_false_iff_ne.2 k3
      clear k3
      have HLw2 := hid (HLw.out.upto (Nat.le_add_right _ 1) (Nat.le_refl _))
      clear HLw
      go_wp2_with fail
      go_meet
      exact ⟨mk, gm, kd, rfl, HM, HLw2, HQ⟩
    case rest =>
     obtain ⟨mk2, gm2, kd2, rfl, HM2, HL5, HQ5⟩ := hcut
     clear p0 p17 p18 p19 hql hbw2 HLw HQ HM
     have hpt : m.pt.size ≤ 9223372036854775807 := by have := HOk.out.part; unfold maxLen at this; omega
     have HStep := hid (lw_step HL5.out (by omega) (by omega) (by omega) (by decide) ok fr m es HOk.out.ents HOk.out.len HOk.out.cap hpt tx HOk.out.text (.int .i64 ck) (.int .i64 cg) (.slice fa fs.length fc))
     have hrg2 := hid HQ5.out.range
     have hinf2 : (Tryz.prog.info? 35).map (·.size) = some 20 := by kernel_rfl
     clear hpt HL5 HQ5
     go_upto_region 16 with fail
     apply wp_region_lit
     iterate 3 go_step
     refine wpList_load_mid rfl 35 _ rfl q 0 rfl _ _ hrg2.out Tryz.underlying35 rfl hinf2 ?_
     go_wp2_with fail
     refine HStep.out.mono ?_
     rintro e w8 ⟨r, T3, L3, sv3, rfl, t1, t2, hL8, hF8⟩
     obtain ⟨av8, hW8, _, _⟩ := hL8.world
     have c08 : w8.cell? ⟨wb, 0, none⟩ = some (.pointer (some ⟨c, 0, none⟩)) := hW8.cell 0
     have hwl8 := hW8.lt
     have hT3 : T3.length ≤ 585 * (i + 1) := by omega
     have HTk := hid (lw_take (hL8.upto (show 9437214 * i + 1 + 9437213 ≤ 9437214 * (i + 1) by omega) (show 585 * i + 585 ≤ 585 * (i + 1) by omega)))
     clear HStep hrg2 hinf2 t1 t2 hL8 hF8 hW8
     go_wp2_with fail
     refine HTk.out.mono ?_
     rintro e w9 ⟨hL9, hF9, hx⟩
     have HL9 := hid hL9
     clear c08 hwl8 HTk hL9 hF9
     rcases hx with rfl | ⟨e1, g, f, fa2, ma, fl2, fc2, ml, mc, rfl, hm⟩
     ·unfold zCk
      have HL10 := hid (HL9.out.quiet ((Below.refl w9.heap.size w9).alloc (Nat.le_refl _) (.cells #[.int .i64 0, .int .i64 0, .int .i64 0, .slice none 0 0, .slice none 0 0] 51)))
      clear HL9
      go_wp2_with fail
      go_roundw
      case rel => exact ⟨mk2, gm2, kd2, i + 1, T3, L3, sv3, rfl, by go_num, by omega, by omega, hT3, HM2, HL10⟩
      case measure => simp [intOf]; omega
     ·have hb10 := (Below.refl w9.heap.size w9).alloc (Nat.le_refl _) (.cells #[.int .i64 e1, .int .i64 g, .int .i64 f, .slice fa2 fl2 fc2, .slice ma ml mc] 51)
      have QA := Blk.new w9 [.int .i64 e1, .int .i64 g, .int .i64 f, .slice fa2 fl2 fc2, .slice ma ml mc] 51
      have HL10 := hid (HL9.out.quiet hb10)
      have Hm := hid hm
      clear HL9 hb10 hm
      go_upto_region 18 with fail
      generalize w9.alloc (.cells #[.int .i64 e1, .int .i64 g, .int .i64 f, .slice fa2 fl2 fc2, .slice ma ml mc] 51) = w10 at QA HL10 ⊢
      generalize w9.heap.size = q10 at QA ⊢
      have a0 : w10.cell? ⟨q10, 0, none⟩ = some (.int .i64 e1) := QA.cell 0
      have a1 : w10.cell? ⟨q10, 1, none⟩ = some (.int .i64 g) := QA.cell 1
      have hql10 := QA.lt
      clear QA
      by_cases h2 : mk2 = ⟨#[]⟩
      ·subst h2
       go_wp2_with fail
       go_roundw
       case rel => exact ⟨⟨#[]⟩, gm2, kd2, i + 1, T3, L3, sv3, rfl, by go_num, by omega, by omega, hT3, HM2, HL10⟩
       case measure => simp [intOf]; omega
      ·have hne : ¬ mk2.toList = [] := fun e => h2 (by
        have e1 := zAY mk2 ⟨#[]⟩
        rw [e, show (⟨#[]⟩ : ByteArray).toList = [] from by decide +kernel] at e1
        exact of_decide_eq_true e1.symm)
       by_cases he : e1 = 0
       ·obtain ⟨k1, rfl⟩ := HM2.out.resolve_left h2
        have hc := (Hm.out he).1 k1 True.intro
        have HMj := hid (show Calls Tryz.prog 14 #[.pointer (some ⟨wb, 0, none⟩), .int .i64 8, .int .i64 g, .int .i64 0, .string mk2] w10 fun e w' => e = .returned (.bool true) ∧ Below w10.heap.size w10 w' by
         obtain ⟨av10, hW10, hA10, _⟩ := HL10.out.world
         have := major8_any wb N _ c kb 0 sv3 _ T3 g mk2 w10 hW10 hA10 hn9 (by omega)
         rwa [decide_eq_true hc] at this)
        clear Hm hc k1 h2
        go_wp2_with fail
        refine HMj.out.mono ?_
        rintro e w12 ⟨rfl, hb12⟩
        have HL12 := hid (HL10.out.quiet hb12)
        clear hb12 HMj HL10
        go_wp2_with fail
        go_roundw
        case rel => exact ⟨mk2, mk2, kd2, i + 1, T3, L3, sv3, rfl, by go_num, by omega, by omega, hT3, HM2, HL12⟩
        case measure => simp [intOf]; omega
       ·clear h2
        go_wp2_with fail
        go_roundw
        case rel => exact ⟨mk2, gm2, kd2, i + 1, T3, L3, sv3, rfl, by go_num, by omega, by omega, hT3, HM2, HL10⟩
        case measure => simp [intOf]; omega
   ·have hbw : Below w.heap.size w wr := by obtain ⟨_, _, g⟩ := HX.out.gs; exact g.gf.below
    clear HX
    by_cases h1 : i < sl
    ·have h2 : ¬ ((i : Int) < 60) := by omega
     go_wp2_with fail
     refine (zCd _).mono ?_
     rintro e w9 ⟨rfl, hb9⟩
     go_wp2_with fail
     go_ret
     exact ⟨rfl, zAd hbw hb9⟩
    ·go_wp2_with fail
     refine (zCd _).mono ?_
     rintro e w9 ⟨rfl, hb9⟩
     go_wp2_with fail
     go_ret
     exact ⟨rfl, zAd hbw hb9⟩
 ·go_enter Tryz.func3, Tryz.ntmps3
  go_wp2_with fail
  refine (fresh_no 0 n 1 _ (by unfold NewOk; omega)).mono ?_
  rintro e w1 ⟨rfl, hbw⟩
  go_wp2_with fail
  refine (zCd _).mono ?_
  rintro e w9 ⟨rfl, hb9⟩
  go_wp2_with fail
  go_ret
  exact ⟨rfl, zAd hbw hb9⟩
end Go.Proofs.YtaemlplcjjbamaaGreatDoor
