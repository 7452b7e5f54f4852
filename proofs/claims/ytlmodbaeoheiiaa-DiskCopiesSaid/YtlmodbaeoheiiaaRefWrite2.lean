/- The document's device: Write, whole. No condition but the sizes. -/
import Derived.Test.YtlmodbaeoheiiaaRefWrite
namespace Go.Proofs.Ytlmodbaeoheiiaa
open Go.RowKit
set_option linter.unusedVariables false

theorem refWrite_off (q : Nat) (R : RSt) (s : ByteArray) (a : Int) (t : ByteArray) (w : World) (h : RefD w q R) (ho : R.off = true) :
    Calls Try.prog 52 #[.pointer (some ⟨q, 0, none⟩), .string s, .int .i64 a, .string t] w fun e w' => e = .returned (.int .i64 14) ∧ w = w' := by
  have d4 := refOff q R w h true ho
  clear h ho
  go_enter Try.func52, Try.ntmps52
  go_wp2_with fail
  go_ret
  exact ⟨rfl, rfl⟩
theorem refWrite_none (q : Nat) (R : RSt) (s : ByteArray) (a : Int) (t : ByteArray) (w : World) (h : RefD w q R) (hl : R.files.length ≤ 1000000) (ho : R.off = false) (hx : refIdx R.files s = -1) :
    Calls Try.prog 52 #[.pointer (some ⟨q, 0, none⟩), .string s, .int .i64 a, .string t] w fun e w' => e = .returned (.int .i64 8) ∧ w = w' := by
  have d4 := refOff q R w h false ho
  have HF := Lib.hid (refFind_any q R s w h hl)
  rw [hx] at HF
  clear h ho hx
  go_enter Try.func52, Try.ntmps52
  go_wp2_with fail
  refine HF.out.mono ?_
  rintro e w' ⟨rfl, rfl⟩
  go_wp2_with fail
  go_ret
  exact ⟨rfl, rfl⟩
set_option maxRecDepth 100000 in
theorem refWrite_range (q : Nat) (R : RSt) (s : ByteArray) (a : Int) (t : ByteArray) (k : Nat) (w : World) (h : RefD w q R) (hl : R.files.length ≤ 1000000) (ho : R.off = false) (hx : refIdx R.files s = k) (ht : t.size ≤ maxLen) (hr : a < 0 ∨ 2097152 - (t.size : Int) < a) :
    Calls Try.prog 52 #[.pointer (some ⟨q, 0, none⟩), .string s, .int .i64 a, .string t] w fun e w' => e = .returned (.int .i64 2) ∧ w = w' := by
  have d4 := refOff q R w h false ho
  have HF := Lib.hid (refFind_any q R s w h hl)
  rw [hx] at HF
  unfold maxLen at ht
  clear h ho hx
  by_cases h0 : a < 0
  · clear hr
    go_enter Try.func52, Try.ntmps52
    go_wp2_with fail
    refine HF.out.mono ?_
    rintro e w' ⟨rfl, rfl⟩
    go_wp2_with fail
    go_ret
    exact ⟨rfl, rfl⟩
  · have h1 : 2097152 - (t.size : Int) < a := by omega
    clear hr
    go_enter Try.func52, Try.ntmps52
    go_wp2_with fail
    refine HF.out.mono ?_
    rintro e w' ⟨rfl, rfl⟩
    go_wp2_with fail
    go_ret
    exact ⟨rfl, rfl⟩
set_option maxRecDepth 100000 in
set_option maxHeartbeats 3200000 in
theorem refWrite_full (q : Nat) (R : RSt) (s : ByteArray) (a : Nat) (t : ByteArray) (k : Nat) (hk : k < R.files.length) (w : World) (h : RefD w q R) (ho : R.off = false) (hl : R.files.length ≤ 1000000) (hs : RSmall R.files) (hm : 0 ≤ R.most ∧ R.most ≤ 32768) (hx : refIdx R.files s = k) (ha : (a : Int) ≤ 2097152 - (t.size : Int))
    (ht : 0 < t.size) (hroom : R.most - (rused R.files : Nat) < ((secs (a + t.size) : Nat) : Int) - ((rsecs R.files[k] : Nat) : Int)) :
    Calls Try.prog 52 #[.pointer (some ⟨q, 0, none⟩), .string s, .int .i64 (a : Int), .string t] w fun e w' => e = .returned (.int .i64 7) ∧ Below w.heap.size w w' := by
  have HF := Lib.hid (refFind_any q R s w h hl)
  rw [hx] at HF
  have d4 := refOff q R w h false ho
  obtain ⟨g, cap, hv, hgl, hc⟩ := rfile_at h k hk
  have c0 : w.cell? ⟨q, 0, none⟩ = some (.slice (some ⟨g, 0, none⟩) R.files.length cap) := by rw [← hv]; exact h.blk.cell 0
  have hql := h.blk.lt
  obtain ⟨hs1, hs2⟩ := hs _ (List.getElem_mem hk)
  have hus : rused R.files ≤ 1000000 * 65537 := Nat.le_trans (rused_le hs) (Nat.mul_le_mul_right _ hl)
  have Hfree := Lib.hid (fun w' (hb : Below w.heap.size w w') => refFree_any q R w' (h.below hb) hl hs hm)
  generalize R.files[k] = F at hc hs1 hs2 hroom
  have hf0 : w.cell? ⟨g, k * 4, none⟩ = some (.int .i64 F.id) := hc 0 (by omega)
  have hf1 : w.cell? ⟨g, k * 4 + 1, none⟩ = some (.string F.name) := hc 1 (by omega)
  have hf2 : w.cell? ⟨g, k * 4 + 2, none⟩ = some (.string F.last) := hc 2 (by omega)
  have hf3 : w.cell? ⟨g, k * 4 + 3, none⟩ = some (.string F.seen) := hc 3 (by omega)
  have hse1 : secs (a + t.size) ≤ 40000 := by unfold secs; omega
  have hse2 : rsecs F ≤ 65537 := by unfold rsecs secs; omega
  have hat : a + t.size ≤ 2097152 := by omega
  have HTk := Lib.hid (fun w' => refTakes_any F w' hs1 hs2)
  have HTn := Lib.hid (fun w' => refTaken_any (a + t.size) w' (by omega))
  rw [show ((a + t.size : Nat) : Int) = (a : Int) + (t.size : Int) by omega] at HTn
  have KE := Lib.hid (fun w' (hb : Below w.heap.size w w') => (show w'.cell? ⟨q, 0, none⟩ = some (.slice (some ⟨g, 0, none⟩) R.files.length cap) ∧ w'.cell? ⟨g, k * 4, none⟩ = some (.int .i64 F.id) ∧ w'.cell? ⟨g, k * 4 + 1, none⟩ = some (.string F.name) ∧ w'.cell? ⟨g, k * 4 + 2, none⟩ = some (.string F.last) ∧ w'.cell? ⟨g, k * 4 + 3, none⟩ = some (.string F.seen) from
    ⟨(hb.cell (p := ⟨q, 0, none⟩) hql).trans c0, (hb.cell (p := ⟨g, k * 4, none⟩) hgl).trans hf0, (hb.cell (p := ⟨g, k * 4 + 1, none⟩) hgl).trans hf1, (hb.cell (p := ⟨g, k * 4 + 2, none⟩) hgl).trans hf2, (hb.cell (p := ⟨g, k * 4 + 3, none⟩) hgl).trans hf3⟩))
  have hkl : (k : Int) < (R.files.length : Int) := by omega
  generalize secs (a + t.size) = A at *
  generalize rsecs F = B at *
  generalize rused R.files = U at *
  have hem := isEmpty_false ht
  have hem3 : ¬ t.toList = [] := by intro h; rw [h] at hem; simp at hem
  clear h hx hc hv hs ho
  go_enter Try.func52, Try.ntmps52
  go_wp2_with fail
  refine HF.out.mono ?_
  rintro e w' ⟨rfl, rfl⟩
  go_upto_region 8 with (fail)
  have hwrap : IntKind.i64.wrap ((a : Int) + (t.size : Int)) = (a : Int) + (t.size : Int) := IntWalk.i64_in _ (by omega)
  have hwrap2 : IntKind.i64.wrap ((A : Int) - (B : Int)) = (A : Int) - (B : Int) := IntWalk.i64_in _ (by omega)
  go_region_held3 (fun w' => w'.cell? ⟨q, 0, none⟩ = some (.slice (some ⟨g, 0, none⟩) R.files.length cap) ∧ w'.cell? ⟨g, k * 4, none⟩ = some (.int .i64 F.id) ∧ w'.cell? ⟨g, k * 4 + 1, none⟩ = some (.string F.name) ∧ w'.cell? ⟨g, k * 4 + 2, none⟩ = some (.string F.last) ∧ w'.cell? ⟨g, k * 4 + 3, none⟩ = some (.string F.seen))
    (first | exact hS2 | exact hS1 | go_keep)
    (first
      | (go_at_call 68; refine (HTn.out _).mono ?_; rintro e w1 ⟨rfl, rfl⟩)
      | (go_at_call 69; refine (HTk.out _).mono ?_; rintro e w1 ⟨rfl, hb1⟩; have hbw := below_step (Below.refl _ w).drew hb1; have hS1 := KE.out w1 hbw)
      | (go_at_call 57; refine (Hfree.out _ hbw).mono ?_; rintro e w2 ⟨rfl, hb2⟩; have hbw2 := below_step hbw hb2; have hS2 := KE.out w2 hbw2))
  clear hS1 hS2
  go_wp2_with fail
  go_ret
  exact ⟨rfl, hbw2⟩
theorem refWrite_any (q : Nat) (R : RSt) (s : ByteArray) (a : Int) (t : ByteArray) (w : World) (h : RefD w q R) (hl : R.files.length ≤ 1000000) (hs : RSmall R.files) (hm : 0 ≤ R.most ∧ R.most ≤ 32768) (ht : t.size ≤ maxLen) (hwl : R.wait.length ≤ 1000000000) (hct : 0 ≤ R.count ∧ R.count ≤ 1000000000000) (hfu : R.fuse ≤ 9223372036854775807) :
    Calls Try.prog 52 #[.pointer (some ⟨q, 0, none⟩), .string s, .int .i64 a, .string t] w fun e w' => e = .returned (.int .i64 (R.pl.write s a t).1) ∧ ∃ R', RDev q R w R' w' ∧ R'.pl = (R.pl.write s a t).2 := by
  cases ho : R.off with
  | true =>
    have e0 : R.pl.write s a t = (14, R.pl) := if_pos ho
    rw [e0]
    refine (refWrite_off q R s a t w h ho).mono ?_
    rintro e w' ⟨rfl, rfl⟩
    exact ⟨rfl, R, RDev.refl h, rfl⟩
  | false =>
    have hno : ¬ (R.pl.off = true) := by show ¬ (R.off = true); rw [ho]; decide
    rcases refIdx_cases R.files s with hx | ⟨k, hx, hk⟩
    · have e0 : R.pl.write s a t = (8, R.pl) := by
        unfold QS.write
        rw [if_neg hno, if_pos (by show refIdx R.files s < 0; rw [hx]; decide)]
      rw [e0]
      refine (refWrite_none q R s a t w h hl ho hx).mono ?_
      rintro e w' ⟨rfl, rfl⟩
      exact ⟨rfl, R, RDev.refl h, rfl⟩
    · have hn8 : ¬ (refIdx R.pl.files s < 0) := by show ¬ (refIdx R.files s < 0); rw [hx]; omega
      have e9 : (refIdx R.pl.files s).toNat = k := by show (refIdx R.files s).toNat = k; rw [hx]; rfl
      by_cases hr : a < 0 ∨ 2097152 - (t.size : Int) < a
      · have e0 : R.pl.write s a t = (2, R.pl) := by unfold QS.write; rw [if_neg hno, if_neg hn8, if_pos hr]
        rw [e0]
        refine (refWrite_range q R s a t k w h hl ho hx ht hr).mono ?_
        rintro e w' ⟨rfl, rfl⟩
        exact ⟨rfl, R, RDev.refl h, rfl⟩
      · obtain ⟨n, rfl⟩ := Int.eq_ofNat_of_zero_le (show 0 ≤ a by omega)
        have hsI : rsecsI R.pl k = rsecs R.files[k] := by
          unfold rsecsI
          show (R.files[k]?.map rsecs).getD 0 = _
          rw [List.getElem?_eq_getElem hk]; rfl
        by_cases hf : 0 < t.size ∧ R.most - (rused R.files : Nat) < ((secs (n + t.size) : Nat) : Int) - ((rsecs R.files[k] : Nat) : Int)
        · have e0 : R.pl.write s (n : Int) t = (7, R.pl) := by
            unfold QS.write
            rw [if_neg hno, if_neg hn8, if_neg hr, e9, hsI]
            exact if_pos hf
          rw [e0]
          refine (refWrite_full q R s n t k hk w h ho hl hs hm hx (by omega) hf.1 hf.2).mono ?_
          rintro e w' ⟨rfl, hb⟩
          exact ⟨rfl, R, RDev.below (RDev.refl h) hb, rfl⟩
        · have e0 : R.pl.write s (n : Int) t = rwGo t.size R.pl k n t := by
            unfold QS.write
            rw [if_neg hno, if_neg hn8, if_neg hr, e9, hsI]
            exact if_neg hf
          rw [e0]
          exact refWrite_room q R s n t k hk w h ho hl hs hm hx (by omega) (by omega) hwl hct hfu
end Go.Proofs.Ytlmodbaeoheiiaa
