/- Read of a file that is there. Conditions: order, sizes. -/
import Derived.Test.YtaeklleogniimaaGreatDoorSize
import Derived.StillTailTactics
namespace Go.Proofs.YtaeklleogniimaaGreatDoor
open Go.RowKit

def textOf (l : List UInt8) : ByteArray := ⟨l.toArray⟩
set_option maxRecDepth 100000 in
theorem read_some (b : Nat) (S : DSt) (s : ByteArray) (p n : Nat) (f : DFile) (w : World) (h : DiskAt w b S) (hor : Ordered S.files) (hl : S.files.length ≤ 1000000000) (ho : S.off = false) (hfi : findF S.files s = some f) (hp : p < f.seen.length) (hs : f.seen.length ≤ 4194304) (hn : n ≤ 9223372036854775807) :
    Calls Tryz.prog 147 #[.pointer (some ⟨b, 0, none⟩), .string s, .int .i64 p, .int .i64 n] w fun e w' => e = .returned (.tuple #[.string (textOf ((f.seen.drop p).take n)), .int .i64 0]) ∧ ∃ k, w' = w.drewN k := by
  have hr := ready_any b S w h
  rw [ho] at hr
  have HR := Lib.hid hr
  have hf := find_any b S s w h hor hl
  rw [hfi] at hf
  have HF := Lib.hid hf
  have hA := h.fat f (findF_mem hfi).1
  obtain ⟨g, sc, hsv, _, hg, hsc, hscm, hcell⟩ := row_some hA.seen (by omega)
  have d3 : w.cell? ⟨f.g, 3, none⟩ = some (.slice (some ⟨g, 0, none⟩) f.seen.length sc) := by rw [← hsv]; exact hA.blk.cell 3
  obtain ⟨m, hm⟩ : ∃ m, m = min n (f.seen.length - p) := ⟨_, rfl⟩
  have hml : ((f.seen.drop p).take n).length = m := by rw [List.length_take, List.length_drop, hm]
  have hconv : ∀ k cp, (convert 134 9 (.slice (some ⟨g, p, none⟩) m cp)).run Tryz.prog (w.drewN k) = .ok (.string (textOf ((f.seen.drop p).take n))) (w.drewN k) := by
    intro k cp
    have := run_convert_bytes_back (P := Tryz.prog) (w.drewN k) 134 9 5 ⟨g, p, none⟩ cp ((f.seen.drop p).take n) Tryz.underlying134 Tryz.underlying5 Tryz.underlying9 (fun j hj => by
      rw [hml] at hj
      have e1 : (⟨g, p, none⟩ : Addr).add j = ⟨g, p + j, none⟩ := by
        unfold Addr.add
        split
        · subst j; rfl
        · simp
      rw [e1]
      show w.cell? ⟨g, p + j, none⟩ = _
      rw [hcell (p + j) (by omega), bytesVals, List.getElem?_map, List.getElem?_eq_getElem (by omega)]
      simp)
    rw [hml] at this
    exact this
  have hscm2 : sc ≤ 9223372036854775807 := by unfold maxLen at hscm; exact hscm
  have hi1 : min (n : Int) ((f.seen.length : Int) - (p : Int)) = (m : Int) := by omega
  have hi2 : (p : Int) + (m : Int) ≤ (f.seen.length : Int) := by omega
  have HI1 := Lib.hid hi1
  have htn : ((p : Int) + (m : Int)).toNat = p + m := by omega
  have hb1 : (0 : Int) ≤ (p : Int) + (m : Int) := by omega
  have hb2 : (p : Int) ≤ (p : Int) + (m : Int) := by omega
  have hb3 : (p : Int) + (m : Int) ≤ (sc : Int) := by omega
  have hb4 : ¬ (sc = p) := by omega
  have hb5 : p + m ≤ sc := by omega
  clear h hor hr hf hA hsv hcell hml
  go_enter Tryz.func147, Tryz.ntmps147
  go_wp2_with fail
  refine HR.out.mono ?_
  rintro e w' ⟨rfl, rfl⟩
  go_wp2_with fail
  refine HF.out.mono ?_
  rintro e w' ⟨rfl, rfl⟩
  go_wp2_with fail
  go_still_tail 16, (by kernel_rfl)
  repeat still_step
  change wpList _ _ _ _ _ w.drew
  have hcv := fun cp => hconv 1 cp
  rw [show w.drewN 1 = w.drew from rfl] at hcv
  rw [hm] at hcv
  clear hconv
  go_wp2_with fail
  go_ret2
  exact ⟨rfl, 1, rfl⟩

def readVal (S : DSt) (s : ByteArray) (p n : Int) : Value := if S.off then .tuple #[.string ⟨#[]⟩, .int .i64 14] else match findF S.files s with
  | none => .tuple #[.string ⟨#[]⟩, .int .i64 8]
  | some f => if p < 0 ∨ n < 0 then .tuple #[.string ⟨#[]⟩, .int .i64 2] else .tuple #[.string (textOf ((f.seen.drop p.toNat).take n.toNat)), .int .i64 0]
set_option maxRecDepth 100000 in
theorem read_any (b : Nat) (S : DSt) (s : ByteArray) (p n : Int) (w : World) (h : DiskAt w b S) (hor : Ordered S.files) (hl : S.files.length ≤ 1000000000) (hs : ∀ f ∈ S.files, f.seen.length ≤ 4194304) (hp : p ≤ 9223372036854775807) (hn : n ≤ 9223372036854775807) :
    Calls Tryz.prog 147 #[.pointer (some ⟨b, 0, none⟩), .string s, .int .i64 p, .int .i64 n] w fun e w' => e = .returned (readVal S s p n) ∧ ∃ k, w' = w.drewN k := by
  have hr := ready_any b S w h
  cases ho : S.off with
  | true =>
    have e0 : readVal S s p n = .tuple #[.string ⟨#[]⟩, .int .i64 14] := by unfold readVal; rw [if_pos ho]
    rw [e0]
    rw [ho] at hr
    have HR := Lib.hid hr
    clear h hor hr hs e0 hp hn
    go_enter Tryz.func147, Tryz.ntmps147
    go_wp2_with fail
    refine HR.out.mono ?_
    rintro e w' ⟨rfl, rfl⟩
    go_wp2_with fail
    go_ret2
    exact ⟨rfl, 0, rfl⟩
  | false =>
    rw [ho] at hr
    have HR := Lib.hid hr
    have hf := find_any b S s w h hor hl
    have hno : ¬ (S.off = true) := by rw [ho]; decide
    cases hfi : findF S.files s with
    | none =>
      have e0 : readVal S s p n = .tuple #[.string ⟨#[]⟩, .int .i64 8] := by unfold readVal; rw [if_neg hno, hfi]
      rw [e0]
      rw [hfi] at hf
      have HF := Lib.hid hf
      clear h hor hr hf hs e0 hno ho hp hn
      go_enter Tryz.func147, Tryz.ntmps147
      go_wp2_with fail
      refine HR.out.mono ?_
      rintro e w' ⟨rfl, rfl⟩
      go_wp2_with fail
      refine HF.out.mono ?_
      rintro e w' ⟨rfl, rfl⟩
      go_wp2_with fail
      go_ret2
      exact ⟨rfl, 0, rfl⟩
    | some f =>
      by_cases hpn : p < 0 ∨ n < 0
      · have e0 : readVal S s p n = .tuple #[.string ⟨#[]⟩, .int .i64 2] := by unfold readVal; rw [if_neg hno, hfi]; exact if_pos hpn
        rw [e0]
        rw [hfi] at hf
        have HF := Lib.hid hf
        have hA := h.fat f (findF_mem hfi).1
        obtain ⟨sa, sc, hsv⟩ := row_shape hA.seen
        have d3 : w.cell? ⟨f.g, 3, none⟩ = some (.slice sa f.seen.length sc) := by rw [← hsv]; exact hA.blk.cell 3
        have hd : (decide (p < 0) || decide (n < 0)) = true := by simp only [Bool.or_eq_true, decide_eq_true_eq]; exact hpn
        clear h hor hr hf hs e0 hno ho hA hsv hpn hp hn
        go_enter Tryz.func147, Tryz.ntmps147
        go_wp2_with fail
        refine HR.out.mono ?_
        rintro e w' ⟨rfl, rfl⟩
        go_wp2_with fail
        refine HF.out.mono ?_
        rintro e w' ⟨rfl, rfl⟩
        go_wp2_with fail
        all_goals go_ret2
        all_goals exact ⟨rfl, 0, rfl⟩
      · obtain ⟨p, rfl⟩ := Int.eq_ofNat_of_zero_le (show 0 ≤ p by omega)
        obtain ⟨n, rfl⟩ := Int.eq_ofNat_of_zero_le (show 0 ≤ n by omega)
        have e0 : readVal S s p n = .tuple #[.string (textOf ((f.seen.drop p).take n)), .int .i64 0] := by
          unfold readVal; rw [if_neg hno, hfi]
          show (if _ then _ else _) = _
          rw [if_neg hpn]; rfl
        rw [e0]
        by_cases hlt : p < f.seen.length
        · exact read_some b S s p n f w h hor hl ho hfi hlt (hs f (findF_mem hfi).1) (by omega)
        · rw [List.drop_eq_nil_of_le (by omega), List.take_nil]
          rw [hfi] at hf
          have HF := Lib.hid hf
          have hA := h.fat f (findF_mem hfi).1
          obtain ⟨sa, sc, hsv⟩ := row_shape hA.seen
          have d3 : w.cell? ⟨f.g, 3, none⟩ = some (.slice sa f.seen.length sc) := by rw [← hsv]; exact hA.blk.cell 3
          clear h hor hr hf hs e0 hno ho hA hsv hpn hp hn
          go_enter Tryz.func147, Tryz.ntmps147
          go_wp2_with fail
          refine HR.out.mono ?_
          rintro e w' ⟨rfl, rfl⟩
          go_wp2_with fail
          refine HF.out.mono ?_
          rintro e w' ⟨rfl, rfl⟩
          go_wp2_with fail
          all_goals go_ret2
          all_goals exact ⟨rfl, 0, rfl⟩
end Go.Proofs.YtaeklleogniimaaGreatDoor
