/- (*sign.Table).Size, Block. No condition. DERIVED: THE SHELF' -/
import Derived.Test.YtaemlplcjjbamaaGreatDoorBBin
import Derived.Shelf.Strings.Builder2
import Derived.Shelf.Strings.Shaped
import Derived.Shelf.Sort.Plain
import Derived.Shelf.Strings.Split
import Derived.Shelf.Unicode.DecodeSlow
import Derived.Shelf.Slices.Clone
set_option maxRecDepth 100000
set_option maxHeartbeats 8000000
namespace Go.Proofs.YtaemlplcjjbamaaGreatDoor
open Go.Lib (hid)
open Go Go.RowKit
set_option linter.unusedVariables false
structure zDV (q m gt gb : Nat) (tf bf : Nat → Nat) (w : World) : Prop where
 weak : ∃ p c, w.cell? ⟨q, 4, none⟩ = some (.slice p m c) ∧ (0 < m → p = some ⟨gt, 0, none⟩)
 block : ∃ p c, w.cell? ⟨q, 5, none⟩ = some (.slice p m c) ∧ (0 < m → p = some ⟨gb, 0, none⟩)
 rowW : zEf w gt m tf
 rowB : zEf w gb m bf
 lt : q < w.heap.size ∧ gt < w.heap.size ∧ gb < w.heap.size
theorem zDV.touch {T : Nat → Prop} {q m gt gb : Nat} {tf bf : Nat → Nat} {w w' : World} (h : zDV q m gt gb tf bf w) (ht : Touch T w w') (h1 : ¬ T q) (h2 : ¬ T gt) (h3 : ¬ T gb) : zDV q m gt gb tf bf w' := by
 obtain ⟨⟨p, c, e1, e2⟩, ⟨p', c', e3, e4⟩, r1, r2, l1, l2, l3⟩ := h
 exact ⟨⟨p, c, (ht.cell (p := ⟨q, 4, none⟩) l1 h1).trans e1, e2⟩, ⟨p', c', (ht.cell (p := ⟨q, 5, none⟩) l1 h1).trans e3, e4⟩, fun j hj => (ht.cell (p := ⟨gt, j, none⟩) l2 h2).trans (r1 j hj), fun j hj => (ht.cell (p := ⟨gb, j, none⟩) l3 h3).trans (r2 j hj), Nat.lt_of_lt_of_le l1 ht.size, Nat.lt_of_lt_of_le l2 ht.size, Nat.lt_of_lt_of_le l3 ht.size⟩
def natVs (L : List Nat) : List Value := L.map fun z : Nat => .int .i64 (z : Int)
theorem zDN (L : List Nat) (z : Nat) : natVs (L ++ [z]) = natVs L ++ [.int .i64 (z : Int)] := by unfold natVs; rw [List.map_append]; rfl
def FindSays (m : Nat) (bf : Nat → Nat) (w : World) (e : Ending) (w' : World) : Prop := ∃ (v : Value) (L : List Nat), e = .returned v ∧ w'.ownsRow w.heap.size 3 1 v L.length (natVs L) ∧ (∀ z ∈ L, ∃ j, j < m ∧ bf j = z) ∧ L.length ≤ m ∧ Below w.heap.size w w'
theorem find_any (q m gt gb x : Nat) (tf bf : Nat → Nat) (w : World) (h : zDV q m gt gb tf bf w) (hm : m ≤ 1048576) :
  Calls Tryz.prog 196 #[.pointer (some ⟨q, 0, none⟩), .int .i64 (x : Int)] w (FindSays m bf w) := by
 have H := hid h
 obtain ⟨⟨p, c, c4, hp⟩, ⟨p', c', c5, hp'⟩, r1, r2, l1, l2, l3⟩ := h
 have HB := hid (bin_any gt m c x p tf w r1 hm hp)
 have HP := hid hp
 have HP' := hid hp'
 have C4 := hid c4
 have C5 := hid c5
 have R1 := hid r1
 have R2 := hid r2
 clear hp hp' r1 r2 c5
 go_enter Tryz.func196, Tryz.ntmps196
 go_wp2_with fail
 refine HB.out.mono ?_
 clear HB c4
 rintro e w1 ⟨i0, b0, rfl, hi0, rfl⟩
 go_upto_region 5 with fail
 go_loopw [5, 7] (fun iv_ v wr => ∃ (i : Nat) (L : List Nat), iv_ = .int .i64 (i : Int) ∧ i ≤ m ∧ L.length ≤ i ∧ Hid (wr.ownsRow w1.heap.size 3 1 v L.length (natVs L)) ∧ Hid (∀ z ∈ L, ∃ j, j < m ∧ bf j = z) ∧ Hid (Below w1.heap.size w1 wr)) (fun iv_ _ _ => m - (intOf iv_).toNat)
 case atStart => exact ⟨i0, [], rfl, hi0, Nat.zero_le _, hid (World.ownsRow_nil _ _ _ _), hid (fun z hz => by cases hz), hid (Below.refl _ _)⟩
 case round =>
  obtain ⟨i, L, rfl, hi, hL, HW, HM, HBl⟩ := hrel
  have HTr := hid (Touch.of_below (S := fun _ => False) HBl.out)
  have c4 := (HTr.out.cell (p := ⟨q, 4, none⟩) l1 (fun h => h)).trans C4.out
  have c5 := (HTr.out.cell (p := ⟨q, 5, none⟩) l1 (fun h => h)).trans C5.out
  by_cases hlt : i < m
  ·have hp1 := HP.out (by omega)
   have hp2 := HP'.out (by omega)
   subst hp1 hp2
   have d1 := (HTr.out.cell (p := ⟨gt, i, none⟩) l2 (fun h => h)).trans (R1.out i hlt)
   have d2 := (HTr.out.cell (p := ⟨gb, i, none⟩) l3 (fun h => h)).trans (R2.out i hlt)
   obtain ⟨z, hz⟩ : ∃ z, z = bf i := ⟨_, rfl⟩
   rw [← hz] at d2
   have Hz := hid hz
   clear hz
   generalize tf i = y at d1
   by_cases hyx : y = x
   ·subst hyx
    have hown := HW.out
    go_wp2_with (at_builtin; refine zCS rfl _ _ 130 rfl w1.heap.size 3 1 8 Tryz.underlying130 _ zCl rfl (by decide) _ _ _ rfl hown [.int .i64 (z : Int)] rfl rfl (by simp [Value.oneCell']) ?c1 ?c2 ?c3 ?_)
    case c1 => unfold maxLen; omega
    case c2 => omega
    case c3 => exact HBl.out.size
    intro v' w3 hown3 hb3
    have HW3 := hid (show w3.ownsRow w1.heap.size 3 1 v' (L ++ [z]).length (natVs (L ++ [z])) by rw [zDN, List.length_append]; exact hown3)
    have HB3 := hid (HBl.out.trans hb3)
    clear hown3 hb3 hown
    go_wp2_with fail
    go_roundw
    case rel => exact ⟨i + 1, L ++ [z], by go_num, by omega, by rw [List.length_append]; simp; omega, HW3, hid (fun t ht => by
     rcases List.mem_append.1 ht with h | h
     ·exact HM.out t h
     ·exact ⟨i, hlt, by rw [← Hz.out]; exact (List.mem_singleton.1 h).symm⟩), HB3⟩
    case measure => simp [intOf]; omega
   ·have hne : ((y : Int) == (x : Int)) = false := by rw [beq_eq_false_iff_ne]; omega
    go_wp2_with fail
    go_ret
    exact ⟨_, L, rfl, HW.out, HM.out, by omega, HBl.out⟩
  ·go_wp2_with fail
   go_ret
   exact ⟨_, L, rfl, HW.out, HM.out, by omega, HBl.out⟩
end Go.Proofs.YtaemlplcjjbamaaGreatDoor
namespace Go.Proofs.YtaemlplcjjbamaaGreatDoor
open Go.Lib (hid)
open Go Go.RowKit
set_option linter.unusedVariables false
structure zFa (q bl gs nS : Nat) (sf : Nat → ByteArray) (w : World) : Prop where
 block : w.cell? ⟨q, 0, none⟩ = some (.int .i64 (bl : Int))
 strong : ∃ p c, w.cell? ⟨q, 3, none⟩ = some (.slice p nS c) ∧ (0 < nS → p = some ⟨gs, 0, none⟩)
 marks : ∀ j, j < nS → w.cell? ⟨gs, j, none⟩ = some (.string (sf j))
 lt : q < w.heap.size ∧ gs < w.heap.size
theorem zFa.touch {T : Nat → Prop} {q bl gs nS : Nat} {sf : Nat → ByteArray} {w w' : World} (h : zFa q bl gs nS sf w) (ht : Touch T w w') (h1 : ¬ T q) (h2 : ¬ T gs) : zFa q bl gs nS sf w' := by
 obtain ⟨e1, ⟨p, c, e2, e2p⟩, e3, l1, l2⟩ := h
 exact ⟨(ht.cell (p := ⟨q, 0, none⟩) l1 h1).trans e1, ⟨p, c, (ht.cell (p := ⟨q, 3, none⟩) l1 h1).trans e2, e2p⟩, fun j hj => (ht.cell (p := ⟨gs, j, none⟩) l2 h2).trans (e3 j hj), Nat.lt_of_lt_of_le l1 ht.size, Nat.lt_of_lt_of_le l2 ht.size⟩
def zFd (m : Nat) (bf : Nat → Nat) (sf : Nat → ByteArray) (mk : ByteArray) (r : Int) : Prop := r = -1 ∨ ∃ j, j < m ∧ r = (bf j : Int) ∧ sf (bf j) = mk
def MatchSays (m bl : Nat) (bf : Nat → Nat) (sf : Nat → ByteArray) (k mb : Nat) (B : List ByteArray) (s : ByteArray) (w : World) (e : Ending) (w' : World) : Prop :=
 ∃ (r : Int), e = .returned (.int .i64 r) ∧ Touch (fun j => j = mb) w w' ∧ ((r = -1 ∧ zAo w' k mb B) ∨ (s.size = bl ∧ zAo w' k mb (seen B s) ∧ zFd m bf sf (zAt (seen B s) s) r))
theorem match_any (q m gt gb x bl gs nS k mb : Nat) (wn : Int) (tf bf : Nat → Nat) (sf : Nat → ByteArray) (B : List ByteArray) (s : ByteArray) (w : World) (h : zDV q m gt gb tf bf w) (hS : zFa q bl gs nS sf w) (hK : zAo w k mb B) (hm : m ≤ 1048576) (hnS : nS ≤ 1048576) (hbf : ∀ j, j < m → bf j < nS) (hs : s.size ≤ maxLen) (hB : B.length ≤ 1000000000) (hne : k ≠ mb) (hq : q ≠ mb) (hgs : gs ≠ mb) :
  Calls Tryz.prog 177 #[.pointer (some ⟨q, 0, none⟩), .pointer (some ⟨k, 0, none⟩), .int .i64 (x : Int), .string s, .int .i64 wn] w (MatchSays m bl bf sf k mb B s w) := by
 have HF := hid (find_any q m gt gb x tf bf w h hm)
 have HS := hid hS
 have HK := hid hK
 have Hbf := hid hbf
 have Hhs := hid hs
 have HB := hid hB
 have Hne := hid hne
 have Hq := hid hq
 have Hgs := hid hgs
 clear h hS hK hbf hs hB hne hq hgs
 go_enter Tryz.func177, Tryz.ntmps177
 go_wp2_with fail
 refine HF.out.mono ?_
 clear HF
 rintro e w1 ⟨v, L, rfl, hrow, hmem, hlen, hbel⟩
 have HT1 := hid (Touch.of_below (S := fun j => j = mb) hbel)
 have HS1 := hid (HS.out.touch (Touch.of_below (S := fun _ => False) hbel) (fun h => h) (fun h => h))
 have HK1 := hid (HK.out.below hbel)
 have HR := hid hrow
 have HM := hid hmem
 obtain ⟨va, vc, rfl⟩ := zAe hrow
 obtain ⟨ln, hln⟩ : ∃ ln, ln = L.length := ⟨_, rfl⟩
 rw [← hln] at hlen ⊢
 have Hln := hid hln
 clear hrow hmem hbel hln HS HK
 have c0 := HS1.out.block
 by_cases hl0 : ln = 0
 ·subst hl0
  go_wp2_with fail
  go_ret
  exact ⟨-1, rfl, HT1.out, Or.inl ⟨rfl, HK1.out⟩⟩
 ·have hl1 : ((ln : Int) == 0) = false := by rw [beq_eq_false_iff_ne]; omega
  obtain ⟨sz, hsz⟩ : ∃ sz, sz = s.size := ⟨_, rfl⟩
  have Hsz := hid hsz
  by_cases hsb : s.size = bl
  ·have hsb' : ((s.size : Int) != (bl : Int)) = false := by rw [hsb]; simp
   have HMk := hid (zBF k mb B s w1 HK1.out Hhs.out HB.out Hne.out)
   have Hsb := hid hsb
   clear hsb hsz
   go_wp2_with fail
   refine HMk.out.mono ?_
   clear HMk
   rintro e w2 ⟨rfl, hK2, hT2⟩
   have HS2 := hid (HS1.out.touch hT2 Hq.out Hgs.out)
   have HK2 := hid hK2
   have HT2 := hid (HT1.out.trans hT2)
   obtain ⟨g, vc', hv, hg1, hg2, hg3, hg4, hg5⟩ := zAz HR.out (by have := Hln.out; omega)
   have hlL := Hln.out
   simp only [Value.slice.injEq] at hv
   obtain ⟨hva, _, _⟩ := hv
   subst hva
   have HG := hid (show ∀ j (hj : j < ln), ∃ z, (∃ i, i < m ∧ bf i = z) ∧ w2.cell? ⟨g, j, none⟩ = some (.int .i64 (z : Int)) from fun j hj => by
    refine ⟨L[j]'(by omega), HM.out _ (List.getElem_mem _), ?_⟩
    rw [hT2.cell (p := ⟨g, j, none⟩) hg2 (fun e => by
     have := (HK1.out.ne_row HR.out (by decide)).2
     exact this (by rw [show mb = g from e.symm]; rfl)), hg5 j (by omega)]
    unfold natVs
    rw [List.getElem?_map, List.getElem?_eq_getElem (by omega)]; rfl)
   obtain ⟨mk, hmk⟩ : ∃ mk, mk = zAt (seen B s) s := ⟨_, rfl⟩
   rw [← hmk]
   have Hmk := hid hmk
   clear hmk hK2 hT2 hg1 hg2 hg3 hg4 hg5 hlL HK1 HS1 c0 HR HM
   obtain ⟨pS, cS, hstr, hpS⟩ := HS2.out.strong
   obtain ⟨z0, ⟨i0, hi0, hz0⟩, _⟩ := HG.out 0 (by omega)
   have hn00 := Hbf.out i0 hi0
   have hpS1 := hpS (by omega)
   subst hpS1
   clear hz0 hi0 hpS hn00
   go_upto_region 7 with fail
   go_loopw [13, 41] (fun fv_ jv wr => ∃ (r : Int) (j : Nat), fv_ = .int .i64 r ∧ jv = .int .i64 (j : Int) ∧ j ≤ ln ∧ Hid (zFd m bf sf mk r) ∧ wr = w2) (fun _ jv _ => ln - (intOf jv).toNat)
   case atStart => exact ⟨-1, 0, rfl, rfl, Nat.zero_le _, hid (Or.inl rfl), rfl⟩
   case round =>
    obtain ⟨r, j, rfl, rfl, hj, HGd, rfl⟩ := hrel
    by_cases hlt : j < ln
    ·obtain ⟨z, hz, d1⟩ := HG.out j hlt
     have Hz := hid hz
     have hzn : z < nS := by obtain ⟨i, hi, rfl⟩ := hz; exact Hbf.out i hi
     have d2 := HS2.out.marks z hzn
     clear hz
     by_cases hmz : sf z = mk
     ·have hb1 : ((sf z).toList == mk.toList) = true := by rw [zAY]; exact decide_eq_true hmz
      have HGz := hid (show zFd m bf sf mk (z : Int) by obtain ⟨i, hi, hiz⟩ := Hz.out; exact Or.inr ⟨i, hi, by rw [hiz], by rw [hiz]; exact hmz⟩)
      generalize sf z = y at d2 hb1
      clear hmz
      by_cases hzw : (z : Int) = wn
      ·have hb2 : ((z : Int) == wn) = true := by rw [beq_iff_eq]; exact hzw
       clear hzw
       go_wp2_with fail
       go_ret
       exact ⟨_, rfl, HT2.out, Or.inr ⟨Hsb.out, HK2.out, by rw [← Hmk.out]; exact HGz.out⟩⟩
      ·have hb2 : ((z : Int) == wn) = false := by rw [beq_eq_false_iff_ne]; exact hzw
       clear hzw
       by_cases hr0 : r < 0
       ·go_wp2_with fail
        go_roundw
        case rel => exact ⟨z, j + 1, rfl, by go_num, by omega, HGz, by trivial⟩
        case measure => simp [intOf]; omega
       ·go_wp2_with fail
        go_roundw
        case rel => exact ⟨r, j + 1, rfl, by go_num, by omega, HGd, by trivial⟩
        case measure => simp [intOf]; omega
     ·have hb1 : ((sf z).toList == mk.toList) = false := by rw [zAY]; exact decide_eq_false hmz
      generalize sf z = y at d2 hb1
      clear hmz
      go_wp2_with fail
      go_roundw
      case rel => exact ⟨r, j + 1, rfl, by go_num, by omega, HGd, by trivial⟩
      case measure => simp [intOf]; omega
    ·go_wp2_with fail
     go_ret
     exact ⟨_, rfl, HT2.out, Or.inr ⟨Hsb.out, HK2.out, by rw [← Hmk.out]; exact HGd.out⟩⟩
  ·have hsb' : ((s.size : Int) != (bl : Int)) = true := by rw [bne_iff_ne]; omega
   clear hsz
   go_wp2_with fail
   go_ret
   exact ⟨-1, rfl, HT1.out, Or.inl ⟨rfl, HK1.out⟩⟩
end Go.Proofs.YtaemlplcjjbamaaGreatDoor
namespace Go.Proofs.YtaemlplcjjbamaaGreatDoor
open Go.Lib (hid)
open Go Go.RowKit
set_option linter.unusedVariables false
theorem zEj (q bl gs nS : Nat) (sf : Nat → ByteArray) (w : World) (h : zFa q bl gs nS sf w) :
  Calls Tryz.prog 176 #[.pointer (some ⟨q, 0, none⟩)] w fun e w' => e = .returned (.int .i64 (bl : Int)) ∧ w' = w := by
 have c0 := h.block
 clear h
 go_enter Tryz.func176, Tryz.ntmps176
 go_wp2
 go_ret
 exact ⟨rfl, rfl⟩
theorem zIY (q size : Nat) (w : World) (c0 : w.cell? ⟨q, 1, none⟩ = some (.int .i64 (size : Int))) :
  Calls Tryz.prog 198 #[.pointer (some ⟨q, 0, none⟩)] w fun e w' => e = .returned (.int .i64 (size : Int)) ∧ w' = w := by
 go_enter Tryz.func198, Tryz.ntmps198
 go_wp2
 go_ret
 exact ⟨rfl, rfl⟩
end Go.Proofs.YtaemlplcjjbamaaGreatDoor
namespace Go.Proofs
open Go.Lib (hid)
set_option maxRecDepth 100000
set_option maxHeartbeats 8000000
open Go.Shelf
def Tryz.lays170_ren : Go.Shelf.Ren := ⟨fun | 170 => 69 | n => n, fun | 70 => 132 | 3 => 3 | 0 => 0 | 72 => 134 | 37 => 108 | 5 => 5 | n => n, fun | n => n⟩
theorem Tryz.lays170 : Go.Proofs.Lays.n170 Tryz.prog Tryz.lays170_ren := {
 mixed := by kernel_rfl
 f170 := Tryz.func69.trans (congrArg some (by kernel_rfl))
 t0 := Tryz.underlying0
 a0 := Tryz.isAgg0
 z0 := Tryz.sizeOf0
 v0 := Tryz.zeroValue0
 t3 := Tryz.underlying3
 a3 := Tryz.isAgg3
 z3 := Tryz.sizeOf3
 v3 := Tryz.zeroValue3
 t37 := Tryz.underlying108
 a37 := Tryz.isAgg108
 z37 := Tryz.sizeOf108
 v37 := Tryz.zeroValue108
 t70 := Tryz.underlying132
 a70 := Tryz.isAgg132
 z70 := Tryz.sizeOf132
 v70 := Tryz.zeroValue132
 t72 := Tryz.underlying134
 a72 := Tryz.isAgg134
 z72 := Tryz.sizeOf134
 v72 := Tryz.zeroValue134 }
open Go.RowKit in
theorem Tryz.Builder_Len (B b : Nat) (bs : List Value) (w : World) (h : Lib.IsBuilder 134 5 B b bs w) :
  Calls Tryz.prog 69 #[.pointer (some ⟨b, 0, none⟩)] w fun e w' => e = .returned (.int .i64 bs.length) ∧ w' = w := Any.Builder_Len Tryz.lays170 B b bs w h
def Tryz.lays169_ren : Go.Shelf.Ren := ⟨fun | 169 => 70 | n => n, fun | 70 => 132 | 9 => 9 | 0 => 0 | 72 => 134 | 37 => 108 | 127 => 167 | 3 => 3 | 5 => 5 | n => n, fun | n => n⟩
theorem Tryz.lays169 : Go.Proofs.Lays.n169 Tryz.prog Tryz.lays169_ren := {
 mixed := by kernel_rfl
 f169 := Tryz.func70.trans (congrArg some (by kernel_rfl))
 t0 := Tryz.underlying0
 a0 := Tryz.isAgg0
 z0 := Tryz.sizeOf0
 v0 := Tryz.zeroValue0
 t3 := Tryz.underlying3
 a3 := Tryz.isAgg3
 z3 := Tryz.sizeOf3
 v3 := Tryz.zeroValue3
 t9 := Tryz.underlying9
 a9 := Tryz.isAgg9
 z9 := Tryz.sizeOf9
 v9 := Tryz.zeroValue9
 t37 := Tryz.underlying108
 a37 := Tryz.isAgg108
 z37 := Tryz.sizeOf108
 v37 := Tryz.zeroValue108
 t70 := Tryz.underlying132
 a70 := Tryz.isAgg132
 z70 := Tryz.sizeOf132
 v70 := Tryz.zeroValue132
 t72 := Tryz.underlying134
 a72 := Tryz.isAgg134
 z72 := Tryz.sizeOf134
 v72 := Tryz.zeroValue134
 t127 := Tryz.underlying167
 a127 := Tryz.isAgg167
 z127 := Tryz.sizeOf167
 v127 := Tryz.zeroValue167 }
theorem Tryz.Builder_Extra_169 : Builder.Extra Tryz.prog Tryz.lays169_ren := {
 sizeBuilder := by kernel_rfl
 liesBuilder := by kernel_rfl
 t5 := Tryz.underlying5
 a5 := Tryz.isAgg5
 z5 := Tryz.sizeOf5
 v5 := Tryz.zeroValue5
 infoByte := by kernel_rfl
 cellsByte := by kernel_rfl
 sizeByte := by kernel_rfl
 neB5 := by decide }
open Go.RowKit in
theorem Tryz.Builder_String_any (B b : Nat) (l : List UInt8) (w : World) (h : Lib.IsBuilder 134 5 B b (Lib.byteCells l) w) (hBw : B ≤ w.heap.size) :
  Calls Tryz.prog 70 #[.pointer (some ⟨b, 0, none⟩)] w fun e w' => e = .returned (.string ⟨l.toArray⟩) ∧ Below B w w' := Any.Builder_String_any Tryz.lays169 Tryz.Builder_Extra_169 B b l w h hBw
def Tryz.lays165_ren : Go.Shelf.Ren := ⟨fun | 165 => 139 | 240 => 98 | 241 => 163 | 276 => 120 | 277 => 190 | n => n, fun | 70 => 132 | 3 => 3 | 0 => 0 | 4 => 4 | 9 => 9 | 20 => 20 | 72 => 134 | 37 => 108 | 164 => 186 | 5 => 5 | n => n, fun | n => n⟩
theorem Tryz.lays165 : Go.Proofs.Lays.n165 Tryz.prog Tryz.lays165_ren := {
 mixed := by kernel_rfl
 f165 := Tryz.func139.trans (congrArg some (by kernel_rfl))
 f240 := Tryz.func98.trans (congrArg some (by kernel_rfl))
 f241 := Tryz.func163.trans (congrArg some (by kernel_rfl))
 f276 := Tryz.func120.trans (congrArg some (by kernel_rfl))
 f277 := Tryz.func190.trans (congrArg some (by kernel_rfl))
 t0 := Tryz.underlying0
 a0 := Tryz.isAgg0
 z0 := Tryz.sizeOf0
 v0 := Tryz.zeroValue0
 t3 := Tryz.underlying3
 a3 := Tryz.isAgg3
 z3 := Tryz.sizeOf3
 v3 := Tryz.zeroValue3
 t4 := Tryz.underlying4
 a4 := Tryz.isAgg4
 z4 := Tryz.sizeOf4
 v4 := Tryz.zeroValue4
 t9 := Tryz.underlying9
 a9 := Tryz.isAgg9
 z9 := Tryz.sizeOf9
 v9 := Tryz.zeroValue9
 t20 := Tryz.underlying20
 a20 := Tryz.isAgg20
 z20 := Tryz.sizeOf20
 v20 := Tryz.zeroValue20
 t37 := Tryz.underlying108
 a37 := Tryz.isAgg108
 z37 := Tryz.sizeOf108
 v37 := Tryz.zeroValue108
 t70 := Tryz.underlying132
 a70 := Tryz.isAgg132
 z70 := Tryz.sizeOf132
 v70 := Tryz.zeroValue132
 t72 := Tryz.underlying134
 a72 := Tryz.isAgg134
 z72 := Tryz.sizeOf134
 v72 := Tryz.zeroValue134
 t164 := Tryz.underlying186
 a164 := Tryz.isAgg186
 z164 := Tryz.sizeOf186
 v164 := Tryz.zeroValue186 }
theorem Tryz.Builder_Extra_165 : Builder.Extra Tryz.prog Tryz.lays165_ren := {
 sizeBuilder := by kernel_rfl
 liesBuilder := by kernel_rfl
 t5 := Tryz.underlying5
 a5 := Tryz.isAgg5
 z5 := Tryz.sizeOf5
 v5 := Tryz.zeroValue5
 infoByte := by kernel_rfl
 cellsByte := by kernel_rfl
 sizeByte := by kernel_rfl
 neB5 := by decide }
open Go.RowKit in
theorem Tryz.Builder_Grow_fresh (B b n : Nat) (w : World) (hB : B ≤ b) (hbk : w.heap[b]? = some (.cells #[.pointer none, .slice none 0 0] 134 (0, 0))) (hBw : B ≤ w.heap.size) (hn : n ≤ 281474976710656) :
  Calls Tryz.prog 139 #[.pointer (some ⟨b, 0, none⟩), .int .i64 n] w fun e w' => e = .returned (.tuple #[]) ∧ (Lib.BuilderAt 134 5 B b (.pointer (some ⟨b, 0, none⟩)) [] w' ∧ Below B w w') := Any.Builder_Grow_fresh Tryz.lays165 Tryz.Builder_Extra_165 B b n w hB hbk hBw hn
def Tryz.lays219_ren : Go.Shelf.Ren := ⟨fun | 219 => 203 | 217 => 207 | 225 => 208 | 224 => 209 | 267 => 210 | 266 => 214 | 314 => 215 | n => n, fun | 9 => 9 | 3 => 3 | 4 => 4 | 5 => 5 | 46 => 109 | 146 => 278 | 51 => 84 | n => n, fun | 1 => 0 | n => n⟩
def Tryz.lays143_ren : Go.Shelf.Ren := ⟨fun | 143 => 189 | 219 => 203 | 217 => 207 | 225 => 208 | 224 => 209 | 267 => 210 | 266 => 214 | 314 => 215 | n => n, fun | 9 => 9 | 3 => 3 | 4 => 4 | 5 => 5 | 46 => 109 | 146 => 278 | 51 => 84 | n => n, fun | 1 => 0 | n => n⟩
theorem Tryz.lays143 : Go.Proofs.Lays.n143 Tryz.prog Tryz.lays143_ren := {
 mixed := by kernel_rfl
 f143 := Tryz.func189.trans (congrArg some (by kernel_rfl))
 f217 := Tryz.func207.trans (congrArg some (by kernel_rfl))
 f219 := Tryz.func203.trans (congrArg some (by kernel_rfl))
 f224 := Tryz.func209.trans (congrArg some (by kernel_rfl))
 f225 := Tryz.func208.trans (congrArg some (by kernel_rfl))
 f266 := Tryz.func214.trans (congrArg some (by kernel_rfl))
 f267 := Tryz.func210.trans (congrArg some (by kernel_rfl))
 f314 := Tryz.func215.trans (congrArg some (by kernel_rfl))
 t3 := Tryz.underlying3
 a3 := Tryz.isAgg3
 z3 := Tryz.sizeOf3
 v3 := Tryz.zeroValue3
 t4 := Tryz.underlying4
 a4 := Tryz.isAgg4
 z4 := Tryz.sizeOf4
 v4 := Tryz.zeroValue4
 t5 := Tryz.underlying5
 a5 := Tryz.isAgg5
 z5 := Tryz.sizeOf5
 v5 := Tryz.zeroValue5
 t9 := Tryz.underlying9
 a9 := Tryz.isAgg9
 z9 := Tryz.sizeOf9
 v9 := Tryz.zeroValue9
 t46 := Tryz.underlying109
 a46 := Tryz.isAgg109
 z46 := Tryz.sizeOf109
 v46 := Tryz.zeroValue109
 t51 := Tryz.underlying84
 a51 := Tryz.isAgg84
 z51 := Tryz.sizeOf84
 v51 := Tryz.zeroValue84
 t146 := Tryz.underlying278
 a146 := Tryz.isAgg278
 z146 := Tryz.sizeOf278
 v146 := Tryz.zeroValue278
 g1 := by kernel_rfl }
open Go.RowKit Go.Lib in
theorem Tryz.strings_Index_one (s : ByteArray) (c : UInt8) (w : World) :
  Calls Tryz.prog 189 #[.string s, .string ⟨#[c]⟩] w fun e w' => e = .returned (.int .i64 (Lib.indexByte s.data.toList c)) ∧ w' = w := Any.strings_Index_one Tryz.lays143 s c w
def Tryz.lays138_ren : Go.Shelf.Ren := ⟨fun | 138 => 188 | 195 => 200 | 218 => 202 | 143 => 189 | 219 => 203 | 217 => 207 | 225 => 208 | 224 => 209 | 267 => 210 | 266 => 214 | 314 => 215 | n => n, fun | 9 => 9 | 3 => 3 | 4 => 4 | 5 => 5 | 0 => 0 | 46 => 109 | 146 => 278 | 51 => 84 | n => n, fun | 1 => 0 | n => n⟩
theorem Tryz.lays138 : Go.Proofs.Lays.n138 Tryz.prog Tryz.lays138_ren := {
 mixed := by kernel_rfl
 f138 := Tryz.func188.trans (congrArg some (by kernel_rfl))
 f143 := Tryz.func189.trans (congrArg some (by kernel_rfl))
 f195 := Tryz.func200.trans (congrArg some (by kernel_rfl))
 f217 := Tryz.func207.trans (congrArg some (by kernel_rfl))
 f218 := Tryz.func202.trans (congrArg some (by kernel_rfl))
 f219 := Tryz.func203.trans (congrArg some (by kernel_rfl))
 f224 := Tryz.func209.trans (congrArg some (by kernel_rfl))
 f225 := Tryz.func208.trans (congrArg some (by kernel_rfl))
 f266 := Tryz.func214.trans (congrArg some (by kernel_rfl))
 f267 := Tryz.func210.trans (congrArg some (by kernel_rfl))
 f314 := Tryz.func215.trans (congrArg some (by kernel_rfl))
 t0 := Tryz.underlying0
 a0 := Tryz.isAgg0
 z0 := Tryz.sizeOf0
 v0 := Tryz.zeroValue0
 t3 := Tryz.underlying3
 a3 := Tryz.isAgg3
 z3 := Tryz.sizeOf3
 v3 := Tryz.zeroValue3
 t4 := Tryz.underlying4
 a4 := Tryz.isAgg4
 z4 := Tryz.sizeOf4
 v4 := Tryz.zeroValue4
 t5 := Tryz.underlying5
 a5 := Tryz.isAgg5
 z5 := Tryz.sizeOf5
 v5 := Tryz.zeroValue5
 t9 := Tryz.underlying9
 a9 := Tryz.isAgg9
 z9 := Tryz.sizeOf9
 v9 := Tryz.zeroValue9
 t46 := Tryz.underlying109
 a46 := Tryz.isAgg109
 z46 := Tryz.sizeOf109
 v46 := Tryz.zeroValue109
 t51 := Tryz.underlying84
 a51 := Tryz.isAgg84
 z51 := Tryz.sizeOf84
 v51 := Tryz.zeroValue84
 t146 := Tryz.underlying278
 a146 := Tryz.isAgg278
 z146 := Tryz.sizeOf278
 v146 := Tryz.zeroValue278
 g1 := by kernel_rfl }
open Go.RowKit Go.Lib in
theorem Tryz.strings_Count_one (s : ByteArray) (c : UInt8) (w : World) :
  Calls Tryz.prog 188 #[.string s, .string ⟨#[c]⟩] w fun e w' => e = .returned (.int .i64 (Lib.countByte s.data.toList c)) ∧ w' = w := Any.strings_Count_one Tryz.lays138 s c w
def Tryz.lays189_ren : Go.Shelf.Ren := ⟨fun | 189 => 112 | 125 => 126 | 257 => 125 | 128 => 149 | 129 => 150 | 294 => 140 | 295 => 141 | 296 => 142 | 297 => 143 | 298 => 144 | 299 => 145 | 216 => 146 | 300 => 147 | 301 => 148 | 328 => 164 | 329 => 165 | 330 => 166 | 331 => 167 | 332 => 168 | 215 => 169 | 343 => 191 | n => n, fun | 28 => 130 | 3 => 3 | 46 => 109 | 0 => 0 | 51 => 84 | 53 => 148 | 4 => 4 | 183 => 206 | 182 => 205 | 131 => 92 | 5 => 5 | 9 => 9 | 218 => 232 | 222 => 236 | 228 => 257 | 229 => 226 | n => n, fun | n => n⟩
theorem Tryz.lays189 : Go.Proofs.Lays.n189 Tryz.prog Tryz.lays189_ren := {
 mixed := by kernel_rfl
 f125 := Tryz.func126.trans (congrArg some (by kernel_rfl))
 f128 := Tryz.func149.trans (congrArg some (by kernel_rfl))
 f129 := Tryz.func150.trans (congrArg some (by kernel_rfl))
 f189 := Tryz.func112.trans (congrArg some (by kernel_rfl))
 f215 := Tryz.func169.trans (congrArg some (by kernel_rfl))
 f216 := Tryz.func146.trans (congrArg some (by kernel_rfl))
 f257 := Tryz.func125.trans (congrArg some (by kernel_rfl))
 f294 := Tryz.func140.trans (congrArg some (by kernel_rfl))
 f295 := Tryz.func141.trans (congrArg some (by kernel_rfl))
 f296 := Tryz.func142.trans (congrArg some (by kernel_rfl))
 f297 := Tryz.func143.trans (congrArg some (by kernel_rfl))
 f298 := Tryz.func144.trans (congrArg some (by kernel_rfl))
 f299 := Tryz.func145.trans (congrArg some (by kernel_rfl))
 f300 := Tryz.func147.trans (congrArg some (by kernel_rfl))
 f301 := Tryz.func148.trans (congrArg some (by kernel_rfl))
 f328 := Tryz.func164.trans (congrArg some (by kernel_rfl))
 f329 := Tryz.func165.trans (congrArg some (by kernel_rfl))
 f330 := Tryz.func166.trans (congrArg some (by kernel_rfl))
 f331 := Tryz.func167.trans (congrArg some (by kernel_rfl))
 f332 := Tryz.func168.trans (congrArg some (by kernel_rfl))
 f343 := Tryz.func191.trans (congrArg some (by kernel_rfl))
 t0 := Tryz.underlying0
 a0 := Tryz.isAgg0
 z0 := Tryz.sizeOf0
 v0 := Tryz.zeroValue0
 t3 := Tryz.underlying3
 a3 := Tryz.isAgg3
 z3 := Tryz.sizeOf3
 v3 := Tryz.zeroValue3
 t4 := Tryz.underlying4
 a4 := Tryz.isAgg4
 z4 := Tryz.sizeOf4
 v4 := Tryz.zeroValue4
 t5 := Tryz.underlying5
 a5 := Tryz.isAgg5
 z5 := Tryz.sizeOf5
 v5 := Tryz.zeroValue5
 t9 := Tryz.underlying9
 a9 := Tryz.isAgg9
 z9 := Tryz.sizeOf9
 v9 := Tryz.zeroValue9
 t28 := Tryz.underlying130
 a28 := Tryz.isAgg130
 z28 := Tryz.sizeOf130
 v28 := Tryz.zeroValue130
 t46 := Tryz.underlying109
 a46 := Tryz.isAgg109
 z46 := Tryz.sizeOf109
 v46 := Tryz.zeroValue109
 t51 := Tryz.underlying84
 a51 := Tryz.isAgg84
 z51 := Tryz.sizeOf84
 v51 := Tryz.zeroValue84
 t53 := Tryz.underlying148
 a53 := Tryz.isAgg148
 z53 := Tryz.sizeOf148
 v53 := Tryz.zeroValue148
 t131 := Tryz.underlying92
 a131 := Tryz.isAgg92
 z131 := Tryz.sizeOf92
 v131 := Tryz.zeroValue92
 t182 := Tryz.underlying205
 a182 := Tryz.isAgg205
 z182 := Tryz.sizeOf205
 v182 := Tryz.zeroValue205
 t183 := Tryz.underlying206
 a183 := Tryz.isAgg206
 z183 := Tryz.sizeOf206
 v183 := Tryz.zeroValue206
 t218 := Tryz.underlying232
 a218 := Tryz.isAgg232
 z218 := Tryz.sizeOf232
 v218 := Tryz.zeroValue232
 t222 := Tryz.underlying236
 a222 := Tryz.isAgg236
 z222 := Tryz.sizeOf236
 v222 := Tryz.zeroValue236
 t228 := Tryz.underlying257
 a228 := Tryz.isAgg257
 z228 := Tryz.sizeOf257
 v228 := Tryz.zeroValue257
 t229 := Tryz.underlying226
 a229 := Tryz.isAgg226
 z229 := Tryz.sizeOf226
 v229 := Tryz.zeroValue226 }
open Go.Sort Go.RowKit in
theorem Tryz.slices_Sort_int (blk off cap : Nat) (zs : List Int) (w : World) (hH : Holds (Value.int .i64) w blk off zs.toArray) (hblk : blk < w.heap.size) (hsz : zs.length < 4611686018427387904) :
  Calls Tryz.prog 112 #[.slice (some ⟨blk, off, none⟩) zs.length cap] w fun e w' =>
   e = .returned (.tuple #[]) ∧ ∃ n os, w' = grow (putRow (Value.int .i64) (Sort.ahead w n) blk off (zs.mergeSort fun x y => decide (x ≤ y)).toArray) os := Any.slices_Sort_int Tryz.lays189 blk off cap zs w hH hblk hsz
def Tryz.lays221_ren : Go.Shelf.Ren := ⟨fun | 221 => 162 | 268 => 187 | 138 => 188 | 143 => 189 | 195 => 200 | 197 => 201 | 218 => 202 | 219 => 203 | 260 => 206 | 217 => 207 | 225 => 208 | 224 => 209 | 267 => 210 | 266 => 214 | 314 => 215 | n => n, fun | 9 => 9 | 3 => 3 | 31 => 49 | 4 => 4 | 0 => 0 | 105 => 267 | 21 => 21 | 5 => 5 | 46 => 109 | 119 => 274 | 139 => 277 | 138 => 276 | 146 => 278 | 51 => 84 | n => n, fun | 1 => 0 | 3 => 1 | 4 => 2 | n => n⟩
theorem Tryz.lays221 : Go.Proofs.Lays.n221 Tryz.prog Tryz.lays221_ren := {
 mixed := by kernel_rfl
 f138 := Tryz.func188.trans (congrArg some (by kernel_rfl))
 f143 := Tryz.func189.trans (congrArg some (by kernel_rfl))
 f195 := Tryz.func200.trans (congrArg some (by kernel_rfl))
 f197 := Tryz.func201.trans (congrArg some (by kernel_rfl))
 f217 := Tryz.func207.trans (congrArg some (by kernel_rfl))
 f218 := Tryz.func202.trans (congrArg some (by kernel_rfl))
 f219 := Tryz.func203.trans (congrArg some (by kernel_rfl))
 f221 := Tryz.func162.trans (congrArg some (by kernel_rfl))
 f224 := Tryz.func209.trans (congrArg some (by kernel_rfl))
 f225 := Tryz.func208.trans (congrArg some (by kernel_rfl))
 f260 := Tryz.func206.trans (congrArg some (by kernel_rfl))
 f266 := Tryz.func214.trans (congrArg some (by kernel_rfl))
 f267 := Tryz.func210.trans (congrArg some (by kernel_rfl))
 f268 := Tryz.func187.trans (congrArg some (by kernel_rfl))
 f314 := Tryz.func215.trans (congrArg some (by kernel_rfl))
 t0 := Tryz.underlying0
 a0 := Tryz.isAgg0
 z0 := Tryz.sizeOf0
 v0 := Tryz.zeroValue0
 t3 := Tryz.underlying3
 a3 := Tryz.isAgg3
 z3 := Tryz.sizeOf3
 v3 := Tryz.zeroValue3
 t4 := Tryz.underlying4
 a4 := Tryz.isAgg4
 z4 := Tryz.sizeOf4
 v4 := Tryz.zeroValue4
 t5 := Tryz.underlying5
 a5 := Tryz.isAgg5
 z5 := Tryz.sizeOf5
 v5 := Tryz.zeroValue5
 t9 := Tryz.underlying9
 a9 := Tryz.isAgg9
 z9 := Tryz.sizeOf9
 v9 := Tryz.zeroValue9
 t21 := Tryz.underlying21
 a21 := Tryz.isAgg21
 z21 := Tryz.sizeOf21
 v21 := Tryz.zeroValue21
 t31 := Tryz.underlying49
 a31 := Tryz.isAgg49
 z31 := Tryz.sizeOf49
 v31 := Tryz.zeroValue49
 t46 := Tryz.underlying109
 a46 := Tryz.isAgg109
 z46 := Tryz.sizeOf109
 v46 := Tryz.zeroValue109
 t51 := Tryz.underlying84
 a51 := Tryz.isAgg84
 z51 := Tryz.sizeOf84
 v51 := Tryz.zeroValue84
 t105 := Tryz.underlying267
 a105 := Tryz.isAgg267
 z105 := Tryz.sizeOf267
 v105 := Tryz.zeroValue267
 t119 := Tryz.underlying274
 a119 := Tryz.isAgg274
 z119 := Tryz.sizeOf274
 t138 := Tryz.underlying276
 a138 := Tryz.isAgg276
 z138 := Tryz.sizeOf276
 v138 := Tryz.zeroValue276
 t139 := Tryz.underlying277
 a139 := Tryz.isAgg277
 z139 := Tryz.sizeOf277
 v139 := Tryz.zeroValue277
 t146 := Tryz.underlying278
 a146 := Tryz.isAgg278
 z146 := Tryz.sizeOf278
 v146 := Tryz.zeroValue278
 g1 := by kernel_rfl
 g3 := by kernel_rfl
 g4 := by kernel_rfl }
def Tryz.laysNm215_ren : Go.Shelf.Ren := ⟨fun | 15 => 111 | n => n, fun | 22 => 130 | 3 => 3 | 4 => 4 | n => n, fun | n => n⟩
theorem Tryz.laysNm215 : Go.Proofs.Lays2.n15 Tryz.prog Tryz.laysNm215_ren := {
 mixed := by kernel_rfl
 f15 := Tryz.func111.trans (congrArg some (by kernel_rfl))
 t3 := Tryz.underlying3
 a3 := Tryz.isAgg3
 z3 := Tryz.sizeOf3
 v3 := Tryz.zeroValue3
 t4 := Tryz.underlying4
 a4 := Tryz.isAgg4
 z4 := Tryz.sizeOf4
 v4 := Tryz.zeroValue4
 t22 := Tryz.underlying130
 a22 := Tryz.isAgg130
 z22 := Tryz.sizeOf130
 v22 := Tryz.zeroValue130
 i3 := by kernel_rfl }
open Go.RowKit Go.Lib in
theorem Tryz.slices_Clone_int (b off n c : Nat) (zs : List Int) (w : World) (hz : n ≤ zs.length) (hbig : n * 8 ≤ 140737488355328) (hc : ∀ j, j < zs.length → w.cell? ⟨b, off + j, none⟩ = some (.int .i64 (zs.getD j 0))) :
  Calls Tryz.prog 111 #[.slice (some ⟨b, off, none⟩) n c] w fun e w' => ∃ v', e = .returned v' ∧ w'.ownsRow w.heap.size 3 1 v' n ((zs.take n).map (Value.int .i64)) ∧ v' ≠ .slice none 0 0 ∧ Below w.heap.size w w' := Any.slices_Clone_int Tryz.laysNm215 b off n c zs w hz hbig hc
open Go.RowKit Go.Lib in
theorem Tryz.slices_Clone_int_nil (n c : Nat) (w : World) :
  Calls Tryz.prog 111 #[.slice none n c] w fun e w' => e = .returned (.slice none 0 0) ∧ w' = w := Any.slices_Clone_int_nil Tryz.laysNm215 n c w
def Tryz.laysNm216_ren : Go.Shelf.Ren := ⟨fun | 16 => 193 | n => n, fun | 24 => 49 | 9 => 9 | 4 => 4 | n => n, fun | n => n⟩
theorem Tryz.laysNm216 : Go.Proofs.Lays2.n16 Tryz.prog Tryz.laysNm216_ren := {
 mixed := by kernel_rfl
 f16 := Tryz.func193.trans (congrArg some (by kernel_rfl))
 t4 := Tryz.underlying4
 a4 := Tryz.isAgg4
 z4 := Tryz.sizeOf4
 v4 := Tryz.zeroValue4
 t9 := Tryz.underlying9
 a9 := Tryz.isAgg9
 z9 := Tryz.sizeOf9
 v9 := Tryz.zeroValue9
 t24 := Tryz.underlying49
 a24 := Tryz.isAgg49
 z24 := Tryz.sizeOf49
 v24 := Tryz.zeroValue49
 i9 := by kernel_rfl }
open Go.RowKit Go.Lib in
theorem Tryz.slices_Clone_string (b off n c : Nat) (zs : List ByteArray) (w : World) (hz : n ≤ zs.length) (hbig : n * 16 ≤ 140737488355328) (hc : ∀ j, j < zs.length → w.cell? ⟨b, off + j, none⟩ = some (.string (zs.getD j ByteArray.empty))) :
  Calls Tryz.prog 193 #[.slice (some ⟨b, off, none⟩) n c] w fun e w' => ∃ v', e = .returned v' ∧ w'.ownsRow w.heap.size 9 1 v' n ((zs.take n).map (Value.string)) ∧ v' ≠ .slice none 0 0 ∧ Below w.heap.size w w' := Any.slices_Clone_string Tryz.laysNm216 b off n c zs w hz hbig hc
open Go.RowKit Go.Lib in
theorem Tryz.slices_Clone_string_nil (n c : Nat) (w : World) :
  Calls Tryz.prog 193 #[.slice none n c] w fun e w' => e = .returned (.slice none 0 0) ∧ w' = w := Any.slices_Clone_string_nil Tryz.laysNm216 n c w
end Go.Proofs
