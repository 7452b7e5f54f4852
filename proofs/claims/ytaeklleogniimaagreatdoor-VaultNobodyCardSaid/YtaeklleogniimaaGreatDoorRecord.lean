/- A record's bytes and its mark: wal.record. Conditions: the sizes. -/
import Derived.Test.YtaeklleogniimaaGreatDoorIdeal
import Derived.Test.YtaeklleogniimaaGreatDoorHeap2
namespace Go.Proofs.YtaeklleogniimaaGreatDoor
open Go Go.RowKit
set_option linter.unusedVariables false

def numVals (n k : Nat) : List Value := ((numL n).take k).map (fun b => Value.int .u8 (b.toNat : Int)) ++ List.replicate (32 - k) (.int .u8 0)
theorem numVals_length (n k : Nat) (h : k ≤ 32) : (numVals n k).length = 32 := by
  unfold numVals
  rw [List.length_append, List.length_map, List.length_take, numL_length, List.length_replicate]
  omega
theorem numVals_set (n k : Nat) (h : k < 32) (b : UInt8) (hb : (numL n)[k]? = some b) : (numVals n k).set k (.int .u8 (b.toNat : Int)) = numVals n (k + 1) := by
  have hl := numL_length n
  unfold numVals
  have e : ((numL n).take (k + 1)) = (numL n).take k ++ [b] := by
    rw [List.take_add_one, hb]
    rfl
  have hk : (((numL n).take k).map (fun b => Value.int .u8 (b.toNat : Int))).length = k := by rw [List.length_map, List.length_take]; omega
  rw [List.set_append_right _ _ (by omega), hk, Nat.sub_self, e, List.map_append, List.append_assoc]
  obtain ⟨m, hm⟩ : ∃ m, 32 - k = m + 1 := ⟨31 - k, by omega⟩
  rw [hm, show 32 - (k + 1) = m by omega]
  rfl
theorem info_u8b : (Tryz.prog.info? 5).map (fun i => (i.zero, i.size, i.bytes)) = some (some (.int .u8 0), 1, 1) := by kernel_rfl
set_option maxRecDepth 100000 in
set_option maxHeartbeats 1000000 in
theorem numbered_any (n : Nat) (w : World) (hn : n < 4611686018427387904) :
    Calls Tryz.prog 75 #[.int .i64 n] w fun e w' => e = .returned (.string (numb n)) ∧ Below w.heap.size w w' := by
  have hmk : ∀ W : World, (Instr.makeSlice 134 (.int .i64 32) (.int .i64 32)).run Tryz.prog W = .ok (.slice (some ⟨W.heap.size, 0, none⟩) 32 32) (W.alloc (.cells (Array.replicate 32 (.int .u8 0)) 5)) :=
    fun W => run_make_one 134 5 (.int .u8 0) 1 Tryz.underlying134 info_u8b rfl 32 (by omega) (by omega) W
  go_enter Tryz.func75, Tryz.ntmps75
  go_wp2
  go_loopw [4, 8] (fun _ i wr => ∃ k : Nat, k ≤ 32 ∧ i = .int .i64 k ∧ Hid (Blk wr w.heap.size (numVals n k) 5) ∧ Hid (Below w.heap.size w wr)) (fun _ i _ => 32 - (intOf i).toNat)
  case atStart =>
    refine ⟨0, Nat.zero_le _, rfl, Lib.hid ?_, Lib.hid ((Below.refl _ _).alloc (Nat.le_refl _) _)⟩
    exact Blk.new w (numVals n 0) _
  case round =>
    obtain ⟨k, hk, rfl, HB, HW⟩ := hrel
    by_cases hlt : k < 32
    · have hlen := numVals_length n k hk
      have hlt2 : (k : Int) < 32 := by omega
      have c0 : ∃ v, wr.cell? ⟨w.heap.size, k, none⟩ = some v := ⟨_, (HB.out.cell k).trans (List.getElem?_eq_getElem (by omega))⟩
      obtain ⟨v0, c0⟩ := c0
      have f0 : wr.frozen? ⟨w.heap.size, k, none⟩ = false := HB.out.free k
      by_cases h7 : k ≤ 7
      · have h7i : (k : Int) ≤ 7 := by omega
        have hmin : min (k : Int) 7 = k := by omega
        have Hset := Lib.hid (numVals_set n k hlt (UInt8.ofNat (n / 256 ^ k)) (numL_at n k h7))
        have Hv : Hid (((UInt8.ofNat (n / 256 ^ k)).toNat : Int) = (n : Int) / 2 ^ (8 * k) % 256) := Lib.hid (by
          rw [UInt8.toNat_ofNat', show (2 : Int) ^ (8 * k) = ((256 ^ k : Nat) : Int) by rw [Int.pow_mul]; norm_cast]
          norm_cast)
        clear hk hlen
        go_wp2
        refine ⟨⟨k + 1, by omega, by go_num, Lib.hid ?_, Lib.hid (HW.out.setCell (Nat.le_refl _) _)⟩, by simp [intOf]; omega⟩
        rw [← Hset.out, Hv.out]
        exact HB.out.set k _
      · have h7i : (7 : Int) < (k : Int) := by omega
        have hmin : min (k : Int) 7 = 7 := by omega
        have h0 : (numL n)[k]? = some 0 := by
          unfold numL
          rw [List.getElem?_map, List.getElem?_range hlt]
          show some (if k ≤ 7 then _ else _) = _
          rw [if_neg h7]
        have Hset := Lib.hid (numVals_set n k hlt 0 h0)
        clear hk hlen h0
        go_wp2
        refine ⟨⟨k + 1, by omega, by go_num, Lib.hid ?_, Lib.hid ((HW.out.setCell (Nat.le_refl _) _).setCell (Nat.le_refl _) _)⟩, by simp [intOf]; omega⟩
        have h2 := (HB.out.set k (.int .u8 ((n : Int) / 72057594037927936))).set k (.int .u8 0)
        rw [List.set_set] at h2
        rw [← Hset.out]
        exact h2
    · have hk32 : k = 32 := by omega
      subst hk32
      have hback : (convert 134 9 (.slice (some ⟨w.heap.size, 0, none⟩) 32 32)).run Tryz.prog wr = .ok (.string (numb n)) wr := by
        refine run_convert_bytes_back wr 134 9 5 ⟨w.heap.size, 0, none⟩ 32 (numL n) Tryz.underlying134 Tryz.underlying5 Tryz.underlying9 ?_
        intro j hj
        first | rw [addr_add, Nat.zero_add] | rw [addr_add]
        refine (HB.out.cell j).trans ?_
        unfold numVals
        rw [List.take_of_length_le (by rw [numL_length]; exact Nat.le_refl _), Nat.sub_self, List.replicate_zero, List.append_nil, List.getElem?_map, List.getElem?_eq_getElem hj]
        rfl
      go_wp2
      go_ret
      exact ⟨rfl, HW.out⟩
end Go.Proofs.YtaeklleogniimaaGreatDoor
namespace Go.Proofs.YtaeklleogniimaaGreatDoor
open Go Go.RowKit Go.WideMaps Go.Maps
set_option linter.unusedVariables false

theorem strEq_any (a b : ByteArray) : (a.toList == b.toList) = decide (a = b) := by
  rw [ByteArray.toList_eq, ByteArray.toList_eq]
  by_cases h : a = b
  · subst h; simp
  · rw [decide_eq_false h]
    simp only [beq_eq_false_iff_ne, ne_eq]
    intro h2
    apply h
    cases a; cases b
    congr
    simpa using h2
/-- what a book tells of a text and a mark -/
def tells (B : List ByteArray) (s m : ByteArray) : Bool := known B s && decide (markOf B s = m)
set_option maxRecDepth 100000 in
theorem elem_int {v : Value} {a : Int} {ps : List MemPlace} (h : plainElem (H := Unit) Tryz.prog 3 v = some (.lit (.int .i64 a), ps)) : v = .int .i64 a := by
  unfold plainElem at h
  rw [Tryz.underlying3] at h
  cases v with
  | int q b =>
    simp only at h
    split at h
    · rename_i hq
      injection h with h
      injection h with h _
      injection h with h
      injection h with h1 h2
      rw [hq.1, h2]
    · cases h
  | _ => cases h
set_option maxRecDepth 100000 in
set_option maxHeartbeats 1000000 in
theorem is_any (k mb : Nat) (B : List ByteArray) (s m : ByteArray) (w : World) (h : BookIs w k mb B) (hs : s.size ≤ maxLen) (hB : B.length ≤ 1000000000) :
    Calls Tryz.prog 31 #[.pointer (some ⟨k, 0, none⟩), .string s, .string m] w fun e w' => e = .returned (.bool (tells B s m)) ∧ Below w.heap.size w w' := by
  obtain ⟨hat, D, hown, hD⟩ := h
  have c2 := hat.real
  have c3 := hat.seen
  have HN := Lib.hid (noBook_any k mb w hat)
  obtain ⟨v, ps, hlook, hv⟩ := hown.look_ok book_law Tryz.underlying90 (book_zero w) (zd := .lit (.int .i64 0)) (zp := []) (plainElem_int Tryz.underlying3 (by decide)) (book_key hs)
  rw [hD.has] at hlook
  cases hk : known B s with
  | false =>
    have ht : tells B s m = false := by unfold tells; rw [hk]; rfl
    rw [hk] at hlook
    rw [ht]
    clear hat hown hD hv
    go_enter Tryz.func31, Tryz.ntmps31
    go_wp2_with fail
    refine HN.out.mono ?_
    rintro e w1 ⟨rfl, rfl⟩
    go_wp2_with fail
    go_ret
    exact ⟨rfl, Below.refl _ _⟩
  | true =>
    have hm := known_iff.1 hk
    have hp := pos_lt hm
    rw [hD.at_ s _ hm] at hv
    have hv2 : v = .int .i64 ((pos B s + 1 : Nat) : Int) := by rw [elem_int hv]; norm_cast
    subst hv2
    have HM := Lib.hid (numbered_any (pos B s + 1) w (by omega))
    have ht : Hid (tells B s m = decide (numb (pos B s + 1) = m)) := Lib.hid (by unfold tells; rw [hk]; rfl)
    rw [hk] at hlook
    rw [ht.out]
    clear hat hown hD hv hm hp ht
    generalize pos B s + 1 = N at hlook HM ⊢
    go_enter Tryz.func31, Tryz.ntmps31
    go_wp2_with fail
    refine HN.out.mono ?_
    rintro e w1 ⟨rfl, rfl⟩
    go_wp2_with fail
    refine HM.out.mono ?_
    rintro e w2 ⟨rfl, hb⟩
    have HB := Lib.hid hb
    clear hb
    go_wp2_with fail
    rw [strEq_any]
    go_ret
    exact ⟨rfl, HB.out⟩
set_option maxRecDepth 100000 in
set_option maxHeartbeats 1000000 in
theorem mark_any (k mb : Nat) (B : List ByteArray) (s : ByteArray) (w : World) (h : BookIs w k mb B) (hs : s.size ≤ maxLen) (hB : B.length ≤ 1000000000) (hne : k ≠ mb) :
    Calls Tryz.prog 70 #[.pointer (some ⟨k, 0, none⟩), .string s] w fun e w' => e = .returned (.string (markOf (seen B s) s)) ∧ BookIs w' k mb (seen B s) ∧ Touch (fun j => j = mb) w w' := by
  have H := Lib.hid h
  obtain ⟨hat, D, hown, hD⟩ := h
  have c2 := hat.real
  have c3 := hat.seen
  have HN := Lib.hid (noBook_any k mb w hat)
  obtain ⟨v, ps, hlook, hv⟩ := hown.look_ok book_law Tryz.underlying90 (book_zero w) (zd := .lit (.int .i64 0)) (zp := []) (plainElem_int Tryz.underlying3 (by decide)) (book_key hs)
  rw [hD.has] at hlook
  cases hk : known B s with
  | true =>
    have hm := known_iff.1 hk
    have hp := pos_lt hm
    have hsn : seen B s = B := by unfold seen; rw [if_pos hk]
    rw [hD.at_ s _ hm] at hv
    have hv2 : v = .int .i64 ((pos B s + 1 : Nat) : Int) := by rw [elem_int hv]; norm_cast
    subst hv2
    have HM := Lib.hid (numbered_any (pos B s + 1) w (by omega))
    have ht : Hid (markOf (seen B s) s = numb (pos B s + 1)) := Lib.hid (by rw [hsn]; rfl)
    rw [hk] at hlook
    rw [ht.out, hsn]
    clear hat hown hD hv hm hp ht hsn
    generalize pos B s + 1 = N at hlook HM ⊢
    go_enter Tryz.func70, Tryz.ntmps70
    go_wp2_with fail
    refine HN.out.mono ?_
    rintro e w1 ⟨rfl, rfl⟩
    go_wp2_with fail
    refine HM.out.mono ?_
    rintro e w2 ⟨rfl, hb⟩
    have HB := Lib.hid hb
    clear hb
    go_wp2_with fail
    go_ret
    exact ⟨rfl, H.out.below HB.out, Touch.of_below HB.out⟩
  | false =>
    have hm : s ∉ B := fun h => by rw [known_iff.2 h] at hk; cases hk
    have hsn : seen B s = B ++ [s] := by unfold seen; rw [if_neg (by rw [hk]; decide)]
    have hlen := fun ty => hown.len Tryz.underlying90 ty
    rw [hD.size] at hlen
    have Hown := Lib.hid hown
    have HD := Lib.hid hD
    have Hat := Lib.hid hat
    have HT := Lib.hid (hown.tidy book_law)
    have hkey := Lib.hid (book_key hs)
    have HM := Lib.hid (show ∀ w', Calls Tryz.prog 75 #[.int .i64 ((B.length : Int) + 1)] w' fun e w'' => e = .returned (.string (numb (B.length + 1))) ∧ Below w'.heap.size w' w'' from fun w' => by
      have h := numbered_any (B.length + 1) w' (by omega)
      rwa [show ((B.length + 1 : Nat) : Int) = (B.length : Int) + 1 by norm_cast] at h)
    have ht : Hid (markOf (B ++ [s]) s = numb (B.length + 1)) := Lib.hid (by unfold markOf; rw [pos_new hm])
    have hwf : (Lit.int .i64 ((B.length : Int) + 1)).wf = true := by
      have := wrap64_wf ((B.length : Int) + 1)
      rw [show wrap64 ((B.length : Int) + 1) = (B.length : Int) + 1 by unfold wrap64; omega] at this
      exact this
    have HV := Lib.hid (plainElem_int (H := Unit) Tryz.underlying3 hwf)
    have HX := Lib.hid (show B.length < maxLen by unfold maxLen; omega)
    rw [hk] at hlook
    rw [hsn, ht.out]
    clear hown hD hv ht hsn hat
    go_enter Tryz.func70, Tryz.ntmps70
    go_wp2_with fail
    refine HN.out.mono ?_
    rintro e w1 ⟨rfl, rfl⟩
    go_wp2_with (at_mapUpdate; refine wpList_mapUpdate_own _ rfl _ _ _ 90 rfl 9 3 book_law Tryz.underlying90 _ mb B.length _ rfl Hown.out HX.out _ _ _ rfl rfl hkey.out _ [] HV.out ?_)
    intro w1 hown1 hgrow1
    have hb1 : Blk w1 k _ _ := blk_grown Hat.out hgrow1 (by intro h; injection h with h; exact hne h.symm)
    have HB1 := Lib.hid (BookIs.mk hb1 ⟨_, (by rw [List.length_append]; exact hown1), HD.out.add HT.out hm⟩)
    clear hown1 hb1
    have HG := Lib.hid hgrow1
    clear hgrow1
    go_wp2_with fail
    refine (HM.out _).mono ?_
    rintro e w2 ⟨rfl, hb⟩
    have HB := Lib.hid hb
    clear hb
    go_wp2_with fail
    go_ret
    refine ⟨rfl, HB1.out.below HB.out, ?_⟩
    have hT : Touch (fun j => j = mb) w w1 := ⟨HG.out.os, HG.out.tape, HG.out.output, HG.out.size, fun i hi hn => HG.out.block i hi (fun e => hn (by injection e))⟩
    exact hT.trans (Touch.of_below HB.out)
end Go.Proofs.YtaeklleogniimaaGreatDoor
namespace Go.Proofs.YtaeklleogniimaaGreatDoor
open Go Go.RowKit
set_option linter.unusedVariables false

set_option maxRecDepth 100000 in
set_option maxHeartbeats 1000000 in
theorem walFour_any (n : Nat) (w : World) (hn : n < 4294967296) :
    Calls Tryz.prog 265 #[.int .i64 n] w fun e w' => e = .returned (.string ⟨(leL n).toArray⟩) ∧ Below w.heap.size w w' := by
  have hcv : ∀ v : List Value, v = (leL n).map (fun b => Value.int .u8 (b.toNat : Int)) → (convert 134 9 (.slice (some ⟨w.heap.size, 0, none⟩) 4 4)).run Tryz.prog (w.alloc (.cells v.toArray 5)) = .ok (.string ⟨(leL n).toArray⟩) (w.alloc (.cells v.toArray 5)) := fun v hv => by
    have hb := Blk.new w v 5
    refine run_convert_bytes_back _ 134 9 5 ⟨w.heap.size, 0, none⟩ 4 (leL n) Tryz.underlying134 Tryz.underlying5 Tryz.underlying9 ?_
    intro j hj
    first | rw [addr_add, Nat.zero_add] | rw [addr_add]
    refine (hb.cell j).trans ?_
    rw [hv, List.getElem?_map, List.getElem?_eq_getElem hj]
    rfl
  have hc := hcv [.int .u8 ((n : Int) % 256), .int .u8 ((n : Int) / 256 % 256), .int .u8 ((n : Int) / 65536 % 256), .int .u8 ((n : Int) / 16777216)] (by
    show _ = [Value.int .u8 ((UInt8.ofNat n).toNat : Int), Value.int .u8 ((UInt8.ofNat (n / 256)).toNat : Int), Value.int .u8 ((UInt8.ofNat (n / 65536)).toNat : Int), Value.int .u8 ((UInt8.ofNat (n / 16777216)).toNat : Int)]
    have e : ∀ m : Nat, ((UInt8.ofNat m).toNat : Int) = (m : Int) % 256 := fun m => by
      rw [UInt8.toNat_ofNat']
      norm_cast
    rw [e, e, show ((UInt8.ofNat (n / 65536)).toNat : Int) = (n : Int) / 65536 % 256 by rw [e]; omega, show ((UInt8.ofNat (n / 16777216)).toNat : Int) = (n : Int) / 16777216 by rw [e]; omega]
    rfl)
  change (convert 134 9 (.slice (some ⟨w.heap.size, 0, none⟩) 4 4)).run Tryz.prog (w.alloc (.cells #[.int .u8 ((n : Int) % 256), .int .u8 ((n : Int) / 256 % 256), .int .u8 ((n : Int) / 65536 % 256), .int .u8 ((n : Int) / 16777216)] 5)) = .ok _ (w.alloc (.cells #[.int .u8 ((n : Int) % 256), .int .u8 ((n : Int) / 256 % 256), .int .u8 ((n : Int) / 65536 % 256), .int .u8 ((n : Int) / 16777216)] 5)) at hc
  clear hcv
  go_enter Tryz.func265, Tryz.ntmps265
  go_wp2
  go_ret
  exact ⟨rfl, (Below.refl _ _).alloc (Nat.le_refl _) _⟩
end Go.Proofs.YtaeklleogniimaaGreatDoor
namespace Go.Proofs.YtaeklleogniimaaGreatDoor
open Go Go.RowKit
set_option linter.unusedVariables false

set_option maxRecDepth 100000 in
set_option maxHeartbeats 1000000 in
theorem record_any (k mb : Nat) (B : List ByteArray) (last s : ByteArray) (w : World) (h : BookIs w k mb B) (hl : last.size ≤ 1000) (hs : s.size ≤ 1048833) (hB : B.length ≤ 1000000000) (hne : k ≠ mb) :
    Calls Tryz.prog 210 #[.pointer (some ⟨k, 0, none⟩), .string last, .string s] w fun e w' => e = .returned (.tuple #[.string (⟨(leL s.size).toArray⟩ ++ markOf (seen B (last ++ s)) (last ++ s) ++ s), .string (markOf (seen B (last ++ s)) (last ++ s))]) ∧ BookIs w' k mb (seen B (last ++ s)) ∧ Touch (fun j => j = mb) w w' := by
  have hsz : (last ++ s).size = last.size + s.size := ByteArray.size_append
  have HM := Lib.hid (mark_any k mb B (last ++ s) w h (by unfold maxLen; omega) hB hne)
  have hmz : (markOf (seen B (last ++ s)) (last ++ s)).size = 32 := numb_size _
  have h4 : (⟨(leL s.size).toArray⟩ : ByteArray).size = 4 := rfl
  have HF := Lib.hid (fun w' => walFour_any s.size w' (by omega))
  generalize hM : markOf (seen B (last ++ s)) (last ++ s) = M at HM hmz ⊢
  generalize hF : (⟨(leL s.size).toArray⟩ : ByteArray) = F at HF h4 ⊢
  have hz5 : (F ++ M).size = 36 := by rw [ByteArray.size_append]; omega
  have o1 : ¬ (9223372036854775807 < last.size + s.size) := by omega
  have o2 : ¬ (9223372036854775807 < F.size + M.size) := by omega
  have o3 : ¬ (9223372036854775807 < (F ++ M).size + s.size) := by omega
  clear h hM hF
  go_enter Tryz.func210, Tryz.ntmps210
  go_wp2_with fail
  refine HM.out.mono ?_
  rintro e w1 ⟨rfl, hb, ht⟩
  have Hb := Lib.hid hb
  have Ht := Lib.hid ht
  clear hb ht
  go_wp2_with fail
  refine (HF.out _).mono ?_
  rintro e w2 ⟨rfl, hb2⟩
  have HB2 := Lib.hid hb2
  clear hb2
  go_wp2_with fail
  go_ret2
  exact ⟨rfl, Hb.out.below HB2.out, Ht.out.trans (Touch.of_below HB2.out)⟩
end Go.Proofs.YtaeklleogniimaaGreatDoor
