/- The walks of strings.Builder's WriteString at a builder that the call itself has made, with what stays of other blocks. Condition: what is held takes at most 2^47 bytes. A builder of bytes that the call itself has made: what is written, and what leaves it as it is. Condition: the size. delta.Bytes: a delta's bytes. Condition: the sizes. -/
import Derived.Test.YtaemlplcjjbamaaGreatDoorBBuilder
import Derived.Test.YtaemlplcjjbamaaGreatDoorBHeld
import Derived.Test.YtaemlplcjjbamaaGreatDoorBKn
import Derived.Test.YtaemlplcjjbamaaGreatDoorBSign3
import Derived.Test.YtaemlplcjjbamaaGreatDoorBFind
import Derived.Laws.EntriesVeiled
namespace Go.Proofs.YtaemlplcjjbamaaGreatDoor
open Go.RowKit
/-- what is no row of bytes, nor the builder b, stays -/
def KeepB (b : Nat) (w w' : World) : Prop := ∀ k cs T, k ≠ b → T ≠ 5 → Blk w k cs T → Blk w' k cs T
theorem KeepB.refl (b : Nat) (w : World) : KeepB b w w := fun _ _ _ _ _ h => h
theorem KeepB.trans {b : Nat} {w1 w2 w3 : World} (h : KeepB b w1 w2) (h' : KeepB b w2 w3) : KeepB b w1 w3 := fun k cs T h1 h2 h3 => h' k cs T h1 h2 (h k cs T h1 h2 h3)
theorem KeepB.of_below {b : Nat} {w w' : World} (h : Below w.heap.size w w') : KeepB b w w' := fun _ _ _ _ _ hb => hb.below h
set_option maxHeartbeats 400000 in
theorem copyCheck_keep (B b : Nat) (bs : List Value) (w : World) (h : Lib.IsBuilder 134 5 B b bs w) :
    Calls Tryz.prog 98 #[.pointer (some ⟨b, 0, none⟩)] w fun e w' => e = .returned (.tuple #[]) ∧ (Lib.BuilderAt 134 5 B b (.pointer (some ⟨b, 0, none⟩)) bs w' ∧ Below B w w' ∧ KeepB b w w') := by
  obtain ⟨j, hj, hjs⟩ := Option.map_eq_some_iff.1 sizeBuilder
  rcases h with h | h
  · have h0 := h.cell0
    have hsh := h.shape
    have hfz := h.frozen0
    have hc1 := Lib.run_to_unsafe w ⟨b, 0, none⟩ Tryz.underlying132 Tryz.underlying186 hj (by rw [hjs]; decide) hsh (Nat.zero_lt_succ 1)
    have hc2 := Lib.run_from_unsafe w ⟨b, 0, none⟩ Tryz.underlying186 Tryz.underlying132 hj hsh liesBuilder
    have hne : (callFunc 120 #[.pointer (some ⟨b, 0, none⟩)]).run Tryz.prog w = .ok (.value (.pointer (some ⟨b, 0, none⟩))) w := by
      rw [run_callFunc_extern Tryz.func120 (by kernel_rfl) (by kernel_rfl) (by kernel_rfl) (e := Extern.AbiNoEscape.same) (by kernel_rfl), Lib.run_noEscape]
      rfl
    have H := Lib.hid h
    clear hsh hj hjs h
    go_enter Tryz.func98, Tryz.ntmps98
    go_wp2
    go_end0
    exact ⟨rfl, H.out.used _, (Below.refl B w).setCell (p := ⟨b, 0, none⟩) H.out.1 _, fun k cs T h1 _ h3 => h3.set_other (a := ⟨b, 0, none⟩) h1 _⟩
  · have h0 := h.cell0
    have hq := Lib.run_neq_ptr_same w ⟨b, 0, none⟩ Tryz.underlying132 hj
    have H := Lib.hid h
    clear hj hjs h
    go_enter Tryz.func98, Tryz.ntmps98
    go_wp2
    go_end0
    exact ⟨rfl, H.out, Below.refl _ _, KeepB.refl _ _⟩
set_option maxHeartbeats 1000000 in
theorem writeString_keep (B b : Nat) (bs : List Value) (s : ByteArray) (w : World) (h : Lib.IsBuilder 134 5 B b bs w) (hlen : bs.length + s.size ≤ 140737488355328) (hBw : B ≤ w.heap.size) :
    Calls Tryz.prog 68 #[.pointer (some ⟨b, 0, none⟩), .string s] w fun e w' => e = .returned (.tuple #[.int .i64 s.size, .nilIface]) ∧ (Lib.BuilderAt 134 5 B b (.pointer (some ⟨b, 0, none⟩)) (bs ++ Lib.strCells s) w' ∧ Below B w w' ∧ KeepB b w w') := by
  obtain ⟨i0, hi, hz0, hz1, hz2⟩ := info_parts info_byte
  go_enter Tryz.func68, Tryz.ntmps68
  go_wp2_with fail
  refine (copyCheck_keep B b bs _ h).mono ?_
  rintro e w1 ⟨rfl, h1, hb1, hk1⟩
  have HK1 := Lib.hid hk1
  clear hk1
  obtain ⟨hB, v, hbk, hown, hne⟩ := h1
  have c1 : w1.cell? ⟨b, 1, none⟩ = some v := by rw [Lib.cell_of_heap hbk]; rfl
  have hs1 := hb1.size
  have Hbk := Lib.hid hbk
  clear hbk
  go_wp2_with (at_builtin; refine Lib.wpList_append_own_string _ rfl _ _ 108 9 rfl B 5 i0 Tryz.underlying108 Tryz.underlying9 hi hz0 hz1 hz2 _ _ _ rfl hown s rfl ?c3 ?c4 ?c5 ?_)
  case c3 => unfold maxLen; omega
  case c4 => omega
  case c5 => omega
  intro v' w2 hown' hgrow _
  have hlt : b < w1.heap.size := Lib.BuilderAt.lt ⟨hB, v, Hbk.out, hown, hne⟩
  have hb2 : w2.heap[b]? = some (.cells #[.pointer (some ⟨b, 0, none⟩), v] 134 (0, 0)) := by
    rw [hgrow.block b hlt (fun e => hne e.symm)]
    exact Hbk.out
  have d1 : w2.cell? ⟨b, 1, none⟩ = some v := by rw [Lib.cell_of_heap hb2]; rfl
  have f1 : w2.frozen? ⟨b, 1, none⟩ = false := Lib.frozen_of_heap hb2 1
  have Hb2 := Lib.hid hb2
  clear hb2
  have HK2 := Lib.hid (show KeepB b w1 w2 from fun k cs T h1 h2 h3 => blk_grown h3 hgrow (row_ne hown h3 (fun e => h2 e.symm)))
  obtain ⟨ao, n', cap, rfl⟩ : ∃ ao n' cap, v' = .slice ao n' cap := by
    rcases hown'.2 with ⟨hv, _⟩ | ⟨g, cap, cur, hv, _⟩
    · exact ⟨_, _, _, hv⟩
    · exact ⟨_, _, _, hv⟩
  go_wp2
  go_ret2
  exact ⟨rfl, Lib.BuilderAt.put hB Hb2.out (bs' := bs ++ Lib.strCells s) (by simpa [Lib.strCells_length] using hown') (by decide), (hb1.grown hgrow (by omega) (fun k hk => (hown.lt k hk).1)).setCell (p := ⟨b, 1, none⟩) hB _, (HK1.out.trans HK2.out).trans (fun k cs T h1 _ h3 => h3.set_other (a := ⟨b, 1, none⟩) h1 _)⟩
end Go.Proofs.YtaemlplcjjbamaaGreatDoor
namespace Go.Proofs.YtaemlplcjjbamaaGreatDoor
open Go Go.RowKit
set_option linter.unusedVariables false
def isW (B : Nat) (bs : List UInt8) (w : World) : Prop := Lib.IsBuilder 134 5 B B (Lib.byteCells bs) w
theorem byteCells_app (l r : List UInt8) : Lib.byteCells (l ++ r) = Lib.byteCells l ++ Lib.byteCells r := by simp [Lib.byteCells]
theorem isW_below {B : Nat} {bs : List UInt8} {w w' : World} (h : isW B bs w) (hb : Below w.heap.size w w') : isW B bs w' := builder_below h hb
theorem isW_lt {B : Nat} {bs : List UInt8} {w : World} (h : isW B bs w) : B < w.heap.size := by
  rcases h with h | h
  · exact h.lt
  · exact h.lt
/-- stores into blocks of other types leave it -/
theorem isW_touch {S : Nat → Prop} {B : Nat} {bs : List UInt8} {w w' : World} (h : isW B bs w) (ht : Touch S w w') (hS : ∀ k, S k → ∃ cs T, Blk w k cs T ∧ T ≠ 134 ∧ T ≠ 5) : isW B bs w' := by
  have key : ∀ p, Lib.BuilderAt 134 5 B B p (Lib.byteCells bs) w → Lib.BuilderAt 134 5 B B p (Lib.byteCells bs) w' := by
    intro p h
    have hlt := h.lt
    obtain ⟨hB, v, hbk, hown, hne⟩ := h
    have hBlk : Blk w B [p, v] 134 := hbk
    have hnB : ¬ S B := fun hs => by
      obtain ⟨cs, T, hk, h1, _⟩ := hS B hs
      exact hk.ne hBlk h1 rfl
    exact ⟨hB, v, by rw [ht.block B hlt hnB]; exact hbk, row_touch hown ht (fun g hg hs => by
      obtain ⟨cs, T, hk, _, h2⟩ := hS g hs
      exact row_ne hown hk (Ne.symm h2) hg), hne⟩
  exact h.imp (key _) (key _)
theorem isW_new (w : World) : isW w.heap.size [] (w.alloc (.cells #[.pointer none, .slice none 0 0] 134)) := Lib.fresh_isBuilder _ _ _
theorem write_w (B : Nat) (bs l : List UInt8) (w : World) (h : isW B bs w) (hlen : bs.length + l.length ≤ 100000000000) (hBw : B ≤ w.heap.size) :
    Calls Tryz.prog 68 #[.pointer (some ⟨B, 0, none⟩), .string (ba l)] w fun e w' => e = .returned (.tuple #[.int .i64 (l.length : Nat), .nilIface]) ∧ isW B (bs ++ l) w' ∧ Below B w w' ∧ KeepB B w w' := by
  have hz := ba_size l
  refine (writeString_keep B B _ (ba l) w h (by rw [Lib.byteCells_length]; omega) hBw).mono ?_
  rintro e w' ⟨he, h1, h2, h3⟩
  refine ⟨by rw [he, hz], Or.inr ?_, h2, h3⟩
  rw [byteCells_app]
  exact h1
theorem string_w (B : Nat) (bs : List UInt8) (w : World) (h : isW B bs w) :
    Calls Tryz.prog 70 #[.pointer (some ⟨B, 0, none⟩)] w fun e w' => e = .returned (.string (ba bs)) ∧ Below B w w' := by
  have hlt := isW_lt h
  refine (Tryz.Builder_String_any B B bs w h (by omega)).mono ?_
  rintro e w' ⟨he, hb⟩
  exact ⟨he, hb⟩
end Go.Proofs.YtaemlplcjjbamaaGreatDoor
namespace Go.Proofs.YtaemlplcjjbamaaGreatDoor
open Go Go.RowKit
set_option linter.unusedVariables false
def NumW (bw : Nat) (bs : List UInt8) (w : World) (e : Ending) (w' : World) : Prop := e = .returned (.tuple #[]) ∧ isW bw bs w' ∧ Below bw w w' ∧ KeepB bw w w'
set_option maxRecDepth 100000 in
theorem bytesNum_any (bw n : Nat) (bs : List UInt8) (w : World) (h : isW bw bs w) (hn : n ≤ 4611686018427387903) (hl : bs.length ≤ 1000000000) :
    Calls Tryz.prog 154 #[.int .i64 (n : Int), .pointer (some ⟨bw, 0, none⟩)] w (NumW bw (bs ++ cnL n) w) := by
  have H := Lib.hid h
  have hb := isW_lt h
  have HN := Lib.hid (codeNum_any n w hn)
  have hc9 := cnL_le hn
  clear h
  go_enter Tryz.func154, Tryz.ntmps154
  go_wp2_with fail
  refine HN.out.mono ?_
  clear HN
  rintro e w1 ⟨rfl, hb1⟩
  have HW := Lib.hid (write_w bw bs (cnL n) w1 (isW_below H.out hb1) (by omega) (by have := hb1.size; omega))
  have HB1 := Lib.hid hb1
  clear hb1
  have hcn : cnT n = ba (cnL n) := rfl
  go_wp2_with fail
  refine HW.out.mono ?_
  clear HW
  rintro e w2 ⟨rfl, hW2, hB2, hK2⟩
  have H2 := Lib.hid (show NumW bw (bs ++ cnL n) w (.returned (.tuple #[])) w2 from ⟨rfl, hW2, (HB1.out.mono (Nat.le_of_lt hb)).trans hB2, (KeepB.of_below HB1.out).trans hK2⟩)
  clear hW2 hB2 hK2
  go_wp2_with fail
  go_end0
  exact H2.out
theorem stpB_len {O : List UInt8} {x : Stp} (h : stpOk x (O.length : Nat)) (hO : O.length ≤ 524288) : ((stpB x).length : Int) ≤ 18 + (x.len + (x.text.length : Nat)) := by
  unfold stpB
  rcases h with ⟨h1, h2, h3, h4⟩ | ⟨h1, h2, h3, h4, h5, h6⟩
  · rw [if_pos h1, List.length_append, h3]
    have := cnL_le (n := 2 * x.text.length) (by omega)
    omega
  · rw [if_neg (by rw [h1]; simp), List.length_append]
    have := cnL_le (n := (2 * x.len + 1).toNat) (by omega)
    have := cnL_le (n := x.at_.toNat) (by omega)
    omega
theorem stpsB_len {O : List UInt8} (hO : O.length ≤ 524288) : ∀ (l : List Stp), (∀ x ∈ l, stpOk x (O.length : Nat)) → (l.flatMap stpB).length ≤ 18 * l.length + (outS O l).length
  | [], _ => Nat.zero_le _
  | x :: l, h => by
    have h1 := h x (List.mem_cons_self ..)
    have h2 := stpB_len h1 hO
    have h3 := stpOut_len h1
    unfold stpN at h3
    have h4 := stpsB_len hO l (fun y hy => h y (List.mem_cons_of_mem _ hy))
    rw [List.flatMap_cons, List.length_append, outS_cons, List.length_append, List.length_cons]
    omega
theorem Touch.of_b {b : Nat} {w w' : World} (h : Below b w w') : Touch (fun j => b ≤ j) w w' := ⟨h.os, h.tape, h.output, h.size, fun k hk hn => h.block k (Nat.lt_of_not_le hn)⟩
theorem flat_take_at {l : List Stp} {k : Nat} {x : Stp} (h : l[k]? = some x) : (l.take (k + 1)).flatMap stpB = (l.take k).flatMap stpB ++ stpB x := by
  have e : l.take (k + 1) = l.take k ++ [x] := by
    rw [List.take_add_one, h]
    rfl
  rw [e, List.flatMap_append]
  simp
set_option maxRecDepth 100000 in
set_option maxHeartbeats 4000000 in
theorem dBytes_any (bl sl : List UInt8) (sv : Value) (base : Nat) (O T : List UInt8) (l : List Stp) (w : World) (hb : bl.length = 32) (hs : sl.length = 32) (hr : w.ownsRow base 221 3 sv l.length (stpsV l)) (hm : Mk O l T) (hO : O.length ≤ 524288) (hT : T.length ≤ 524288) :
    Calls Tryz.prog 129 #[dlV (ba bl) (ba sl) T.length sv] w fun e w' => e = .returned (.tuple #[.string (ba (dlBytes ⟨bl, sl, (T.length : Nat), l⟩)), .int .i64 0]) ∧ Below w.heap.size w w' := by
  have HM := Lib.hid hm
  have hlT : l.length ≤ T.length := by rw [← hm.out]; exact outS_count l hm.ok
  have HRi := Lib.hid (fun w' (h : w'.ownsRow base 221 3 sv l.length (stpsV l)) => dRight_any (ba bl) (ba sl) sv base O T l w' (by rw [ba_size]; exact hb) (by rw [ba_size]; exact hs) h hm hT)
  obtain ⟨sa, sc, rfl⟩ := row_shape hr
  have hbz := ba_size bl
  have hsz := ba_size sl
  have hba : ba bl ++ ba sl = ba (bl ++ sl) := by
    unfold ba
    apply ByteArray.ext
    simp
  have HB0 := Lib.hid ((Below.refl w.heap.size w).alloc (Nat.le_refl _) (.cells #[.string (ba bl), .string (ba sl), .int .i64 (T.length : Int), .slice sa l.length sc] 196))
  have HQ := Lib.hid (Blk.new w [.string (ba bl), .string (ba sl), .int .i64 (T.length : Int), .slice sa l.length sc] 196)
  have HR0 := Lib.hid (ownsRow_below hr HB0.out)
  have hmf : ∀ (fn : Fn) (first cap : Array Value) (w : World), (Instr.makeFunc fn first cap).run Tryz.prog w = .ok (.func fn first cap) w := fun _ _ _ _ => rfl
  clear hr hm
  unfold dlV at HRi ⊢
  go_enter Tryz.func129, Tryz.ntmps129
  go_upto_region 1 with fail
  generalize w.alloc (.cells #[.string (ba bl), .string (ba sl), .int .i64 (T.length : Int), .slice sa l.length sc] 196) = w0 at HB0 HQ HR0 ⊢
  obtain ⟨gx, hgx⟩ : ∃ gx, gx = w.heap.size := ⟨_, rfl⟩
  rw [← hgx] at HQ HB0 ⊢
  have Hgx := Lib.hid hgx
  clear hgx
  have c0 : w0.cell? ⟨gx, 0, none⟩ = some (.string (ba bl)) := HQ.out.cell 0
  have c1 : w0.cell? ⟨gx, 1, none⟩ = some (.string (ba sl)) := HQ.out.cell 1
  have c2 : w0.cell? ⟨gx, 2, none⟩ = some (.int .i64 (T.length : Int)) := HQ.out.cell 2
  have c3 : w0.cell? ⟨gx, 3, none⟩ = some (.slice sa l.length sc) := HQ.out.cell 3
  have hgl := HQ.out.lt
  go_wp2_with fail
  refine (HRi.out _ HR0.out).mono ?_
  clear HRi
  rintro e w1 ⟨rfl, hb1⟩
  have HB1 := Lib.hid (HB0.out.trans (hb1.mono (Nat.le_of_lt hgl)))
  have HQ1 := Lib.hid (HQ.out.below hb1)
  have HR1 := Lib.hid (ownsRow_below HR0.out hb1)
  have hgl1 := HQ1.out.lt
  clear hb1 c0 c1 c2 c3 HB0 HQ HR0
  go_upto_region 4 with fail
  have HW2 := Lib.hid (isW_new w1)
  have HBa := Lib.hid ((Below.refl w1.heap.size w1).alloc (Nat.le_refl _) (.cells #[.pointer none, .slice none 0 0] 134))
  generalize w1.alloc (.cells #[.pointer none, .slice none 0 0] 134) = w2 at HW2 HBa ⊢
  obtain ⟨bw, hbw⟩ : ∃ bw, bw = w1.heap.size := ⟨_, rfl⟩
  rw [← hbw] at HW2 HBa ⊢
  have HQ2 := Lib.hid (HQ1.out.below (hbw ▸ HBa.out))
  have HR2 := Lib.hid (ownsRow_below HR1.out (hbw ▸ HBa.out))
  have HB2 := Lib.hid (HB1.out.trans (HBa.out.mono (by omega)))
  have hgb : gx < bw := by omega
  have Hrb := Lib.hid (show ∀ g, (Value.slice sa l.length sc).ownBlock = some g → g < bw from fun g hg => by have := (HR1.out.lt g hg).2; omega)
  clear hbw HBa HQ1 HR1 HB1
  have c0 : w2.cell? ⟨gx, 0, none⟩ = some (.string (ba bl)) := HQ2.out.cell 0
  have c1 : w2.cell? ⟨gx, 1, none⟩ = some (.string (ba sl)) := HQ2.out.cell 1
  have c2 : w2.cell? ⟨gx, 2, none⟩ = some (.int .i64 (T.length : Int)) := HQ2.out.cell 2
  have c3 : w2.cell? ⟨gx, 3, none⟩ = some (.slice sa l.length sc) := HQ2.out.cell 3
  have hs2 := isW_lt HW2.out
  have HWr := Lib.hid (write_w bw [] (bl ++ sl) w2 HW2.out (by rw [List.length_append]; simp; omega) (by omega))
  go_wp2_with fail
  refine HWr.out.mono ?_
  clear HWr
  rintro e w3 ⟨rfl, hW3, hB3, hK3⟩
  have HT3 := Lib.hid (Touch.of_b hB3)
  have HQ3 := Lib.hid (HQ2.out.touch HT3.out (by omega))
  have k2 : w3.cell? ⟨gx, 2, none⟩ = some (.int .i64 (T.length : Int)) := HQ3.out.cell 2
  have HNm := Lib.hid (bytesNum_any bw T.length (bl ++ sl) w3 hW3 (by omega) (by rw [List.length_append]; omega))
  clear hW3 hB3 hK3 c0 c1 c2 c3
  go_wp2_with fail
  refine HNm.out.mono ?_
  clear HNm
  rintro e w4 ⟨rfl, hW4, hB4, hK4⟩
  have HT4 := Lib.hid (HT3.out.trans (Touch.of_b hB4))
  have HQ4 := Lib.hid (HQ2.out.touch HT4.out (by omega))
  have k3 : w4.cell? ⟨gx, 3, none⟩ = some (.slice sa l.length sc) := HQ4.out.cell 3
  have hcT := cnL_le (n := T.length) (by omega)
  have HNm := Lib.hid (bytesNum_any bw l.length ((bl ++ sl) ++ cnL T.length) w4 hW4 (by omega) (by rw [List.length_append, List.length_append]; omega))
  clear hW4 hB4 hK4 k2
  go_wp2_with fail
  refine HNm.out.mono ?_
  clear HNm
  rintro e w5 ⟨rfl, hW5, hB5, hK5⟩
  have HT5 := Lib.hid (HT4.out.trans (Touch.of_b hB5))
  have HQ5 := Lib.hid (HQ2.out.touch HT5.out (by omega))
  have k3 : w5.cell? ⟨gx, 3, none⟩ = some (.slice sa l.length sc) := HQ5.out.cell 3
  have hcm := cnL_le (n := l.length) (by omega)
  obtain ⟨pre, hpre⟩ : ∃ pre, pre = (bl ++ sl) ++ cnL T.length ++ cnL l.length := ⟨_, rfl⟩
  have HW5 := Lib.hid (show isW bw (pre ++ (l.take 0).flatMap stpB) w5 by rw [hpre]; simpa using hW5)
  have hprl : pre.length ≤ 100 := by rw [hpre]; simp only [List.length_append]; omega
  have Hpre := Lib.hid hpre
  have HBytes := Lib.hid (fun k => Nat.le_trans (stpsB_len hO (l.take k) (fun x hx => HM.out.ok x (List.mem_of_mem_take hx))) (show 18 * (l.take k).length + (outS O (l.take k)).length ≤ 18 * l.length + T.length from by
    have h1 := outS_take_le (O := O) (l := l) k
    rw [HM.out.out] at h1
    rw [List.length_take]
    omega))
  obtain ⟨m, hml⟩ : ∃ m, m = l.length := ⟨_, rfl⟩
  rw [← hml] at k3
  have Hm := Lib.hid hml
  clear hW5 hB5 hK5 hpre
  go_wp2_with fail
  go_loopw [30] (fun kv wr => ∃ k : Nat, kv = .int .i64 (k : Int) ∧ k ≤ m ∧ Hid (isW bw (pre ++ (l.take k).flatMap stpB) wr) ∧ Hid (Touch (fun j => bw ≤ j) w2 wr)) (fun kv _ => m - (intOf kv).toNat)
  case atStart => exact ⟨0, rfl, Nat.zero_le _, HW5, HT5⟩
  case round =>
    obtain ⟨k, rfl, hk, HW, HT⟩ := hrel
    have hszr := isW_lt HW.out
    by_cases hlt : k < m
    · have HRr := Lib.hid (row_touch HR2.out HT.out (fun g hg e => by have := Hrb.out g hg; omega))
      obtain ⟨g, cap, hv, hg2, hg3, hg4, hg6, hg5⟩ := row_some HRr.out (by omega)
      simp only [Value.slice.injEq] at hv
      obtain ⟨rfl, _, rfl⟩ := hv
      obtain ⟨x, hx⟩ : ∃ x, l[k]? = some x := ⟨_, List.getElem?_eq_getElem (by omega)⟩
      obtain ⟨v1, v2, v3⟩ := stpsV_at hx
      have e1 := (hg5 (k * 3) (by omega)).trans v1
      have e2 := (hg5 (k * 3 + 1) (by omega)).trans v2
      have e3 := (hg5 (k * 3 + 2) (by omega)).trans v3
      have hok := HM.out.ok x (List.mem_of_getElem? hx)
      have Hnext := Lib.hid (flat_take_at hx)
      have hlk := HBytes.out k
      have Hlk := Lib.hid (show (pre ++ (l.take k).flatMap stpB).length ≤ 20000000 by rw [List.length_append]; omega)
      obtain ⟨xa, xl, xt⟩ := x
      simp only at e1 e2 e3
      have hxt := ba_size xt
      have HBx := Lib.hid (Blk.new wr [.int .i64 xa, .int .i64 xl, .string (ba xt)] 221)
      have hBa : Below wr.heap.size wr (wr.alloc (.cells #[.int .i64 xa, .int .i64 xl, .string (ba xt)] 221)) := (Below.refl _ wr).alloc (Nat.le_refl _) _
      have HWa := Lib.hid (isW_below HW.out hBa)
      have HTa := Lib.hid (HT.out.trans (Touch.of_below hBa))
      have hqb : wr.heap.size ≠ bw := by omega
      rcases hok with ⟨h1, h2, h3, h4⟩ | ⟨h1, h2, h3, h4, h5, h6⟩
      · simp only at h1 h2 h3 h4
        subst h2 h3
        have he := ba_full h1
        have HsB := Lib.hid (show stpB ⟨0, 0, xt⟩ = cnL (2 * xt.length) ++ xt by unfold stpB; rw [if_pos h1])
        obtain ⟨n2, hn2⟩ : ∃ n2, n2 = 2 * xt.length := ⟨_, rfl⟩
        have hn2i : 2 * (xt.length : Int) = (n2 : Int) := by omega
        have HNm := Lib.hid (fun w' (h : isW bw (pre ++ (l.take k).flatMap stpB) w') => bytesNum_any bw n2 _ w' h (by omega) (by have := Hlk.out; omega))
        have Hn2 := Lib.hid hn2
        have hc2 := cnL_le (n := n2) (by omega)
        clear hg5 v1 v2 v3 hx hlk hn2 h1
        go_upto_region 11 with fail
        generalize wr.alloc (.cells #[.int .i64 0, .int .i64 0, .string (ba xt)] 221) = wx at HBx HWa HTa ⊢
        generalize wr.heap.size = qx at HBx hqb ⊢
        have j2 : wx.cell? ⟨qx, 2, none⟩ = some (.string (ba xt)) := HBx.out.cell 2
        go_wp2_with fail
        refine (HNm.out _ HWa.out).mono ?_
        clear HNm
        rintro e w6 ⟨rfl, hW6, hB6, hK6⟩
        have HBx6 := Lib.hid (hK6 _ _ _ hqb (by decide) HBx.out)
        have i2 : w6.cell? ⟨qx, 2, none⟩ = some (.string (ba xt)) := HBx6.out.cell 2
        have hs6 := isW_lt hW6
        have HWr := Lib.hid (write_w bw _ xt w6 hW6 (by rw [List.length_append]; have := Hlk.out; omega) (by omega))
        have HT6 := Lib.hid (HTa.out.trans (Touch.of_b hB6))
        clear hW6 hB6 hK6 j2
        go_wp2_with fail
        refine HWr.out.mono ?_
        clear HWr
        rintro e w7 ⟨rfl, hW7, hB7, hK7⟩
        have HW7 := Lib.hid (show isW bw (pre ++ (l.take (k + 1)).flatMap stpB) w7 by
          rw [Hnext.out, HsB.out, ← Hn2.out, ← List.append_assoc, ← List.append_assoc]; exact hW7)
        have HT7 := Lib.hid (HT6.out.trans (Touch.of_b hB7))
        clear hW7 hB7 hK7
        go_wp2_with fail
        go_roundw
        case rel => exact ⟨k + 1, by go_num, by omega, HW7, HT7⟩
        case measure => simp [intOf]; omega
      · simp only at h1 h2 h3 h4 h5 h6
        subst h1
        have he := ba_empty
        have HsB := Lib.hid (show stpB ⟨xa, xl, []⟩ = cnL (2 * xl + 1).toNat ++ cnL xa.toNat by unfold stpB; rw [if_neg (by simp)])
        obtain ⟨n2, hn2⟩ : ∃ n2 : Nat, (n2 : Int) = 2 * xl + 1 := ⟨(2 * xl + 1).toNat, by omega⟩
        obtain ⟨na, hna⟩ : ∃ na : Nat, (na : Int) = xa := ⟨xa.toNat, by omega⟩
        have Hn2 := Lib.hid (show (2 * xl + 1).toNat = n2 by omega)
        have Hna := Lib.hid (show xa.toNat = na by omega)
        have hn2i : 2 * xl + 1 = (n2 : Int) := hn2.symm
        have HNm := Lib.hid (fun w' (h : isW bw (pre ++ (l.take k).flatMap stpB) w') => bytesNum_any bw n2 _ w' h (by omega) (by have := Hlk.out; omega))
        have hc2 := cnL_le (n := n2) (by omega)
        have hna4 : na ≤ 4611686018427387903 := by omega
        subst hna
        clear hg5 v1 v2 v3 hx hlk hn2 hxt
        go_upto_region 11 with fail
        generalize wr.alloc (.cells #[.int .i64 (na : Int), .int .i64 xl, .string (ba [])] 221) = wx at HBx HWa HTa ⊢
        generalize wr.heap.size = qx at HBx hqb ⊢
        have j1 : wx.cell? ⟨qx, 1, none⟩ = some (.int .i64 xl) := HBx.out.cell 1
        have j2 : wx.cell? ⟨qx, 2, none⟩ = some (.string (ba [])) := HBx.out.cell 2
        go_wp2_with fail
        refine (HNm.out _ HWa.out).mono ?_
        clear HNm
        rintro e w6 ⟨rfl, hW6, hB6, hK6⟩
        have HBx6 := Lib.hid (hK6 _ _ _ hqb (by decide) HBx.out)
        have i0 : w6.cell? ⟨qx, 0, none⟩ = some (.int .i64 (na : Int)) := HBx6.out.cell 0
        have HNm := Lib.hid (bytesNum_any bw na _ w6 hW6 hna4 (by rw [List.length_append]; have := Hlk.out; omega))
        have HT6 := Lib.hid (HTa.out.trans (Touch.of_b hB6))
        clear hW6 hB6 hK6 j1 j2
        go_wp2_with fail
        refine HNm.out.mono ?_
        clear HNm
        rintro e w7 ⟨rfl, hW7, hB7, hK7⟩
        have HW7 := Lib.hid (show isW bw (pre ++ (l.take (k + 1)).flatMap stpB) w7 by
          rw [Hnext.out, HsB.out, Hn2.out, Hna.out, ← List.append_assoc, ← List.append_assoc]; exact hW7)
        have HT7 := Lib.hid (HT6.out.trans (Touch.of_b hB7))
        clear hW7 hB7 hK7
        go_wp2_with fail
        go_roundw
        case rel => exact ⟨k + 1, by go_num, by omega, HW7, HT7⟩
        case measure => simp [intOf]; omega
    · have hkm : k = m := by omega
      subst hkm
      have he : pre ++ (l.take k).flatMap stpB = dlBytes ⟨bl, sl, (T.length : Nat), l⟩ := by
        rw [Hm.out, List.take_of_length_le (Nat.le_refl _), Hpre.out]
        unfold dlBytes
        simp
      have HS := Lib.hid (string_w bw _ wr HW.out)
      rw [he] at HS
      clear he
      go_wp2_with fail
      refine HS.out.mono ?_
      clear HS
      rintro e w6 ⟨rfl, hb6⟩
      have HT6 := Lib.hid (HT.out.trans (Touch.of_b hb6))
      clear hb6
      go_wp2_with fail
      go_ret2
      exact ⟨rfl, by rw [← Hgx.out]; exact HB2.out.trans (HT6.out.below (by omega) (fun k hk e => by omega))⟩
end Go.Proofs.YtaemlplcjjbamaaGreatDoor
