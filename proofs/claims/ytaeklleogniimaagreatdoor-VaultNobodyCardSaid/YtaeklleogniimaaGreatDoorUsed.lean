/- How many sectors are taken, and free. Conditions: sizes. -/
import Derived.Test.YtaeklleogniimaaGreatDoorNamed
namespace Go.Proofs.YtaeklleogniimaaGreatDoor
open Go.RowKit

def secs (n : Nat) : Nat := (n + 63) / 64
def secsOf (f : DFile) : Nat := secs (max f.seen.length f.last.length)
def usedOf (l : List DFile) : Nat := (l.map secsOf).sum
def Small (l : List DFile) : Prop := ∀ f ∈ l, f.seen.length ≤ 4194304 ∧ f.last.length ≤ 4194304
theorem usedOf_le {l : List DFile} (h : Small l) : usedOf l ≤ l.length * 65537 := by
  unfold usedOf
  induction l with
  | nil => simp
  | cons f r ih =>
    have h1 := h f (List.mem_cons_self ..)
    have h2 := ih (fun g hg => h g (List.mem_cons_of_mem _ hg))
    have h3 : secsOf f ≤ 65537 := by unfold secsOf secs; omega
    simp only [List.map_cons, List.sum_cons, List.length_cons]
    rw [Nat.add_mul]
    omega
theorem usedOf_take {l : List DFile} {k : Nat} (hk : k < l.length) : usedOf (l.take (k + 1)) = usedOf (l.take k) + secsOf l[k] := by
  unfold usedOf
  rw [List.take_succ_eq_append_getElem hk, List.map_append, List.sum_append]
  simp
theorem sectors_max (a c : Nat) (w : World) (ha : a ≤ 4194304) (hc : c ≤ 4194304) : Calls Tryz.prog 220 #[.int .i64 (max (a : Int) (c : Int))] w fun e w' => e = .returned (.int .i64 ((secs (max a c) : Nat) : Int)) ∧ w = w' := by
  have e : max (a : Int) (c : Int) = ((max a c : Nat) : Int) := by omega
  rw [e]
  exact sectors_any _ w (by omega)

set_option maxRecDepth 100000 in
set_option maxHeartbeats 4000000 in
theorem used_any (b : Nat) (S : DSt) (w : World) (h : DiskAt w b S) (hl : S.files.length ≤ 1000000000) (hf : Small S.files) :
    Calls Tryz.prog 270 #[.pointer (some ⟨b, 0, none⟩)] w fun e w' => e = .returned (.int .i64 (usedOf S.files : Nat)) ∧ ∃ n, w' = w.drewN n := by
  obtain ⟨ad, cap, hv⟩ := row_shape h.frow
  have c0 : w.cell? ⟨b, 0, none⟩ = some (.slice ad S.files.length cap) := by rw [← hv]; exact h.blk.cell 0
  have H := Lib.hid h
  have Hf := Lib.hid hf
  have Hv := Lib.hid hv
  clear h hf hv
  go_enter Tryz.func270, Tryz.ntmps270
  go_wp2
  clear c0
  go_loopw [3, 11] (fun u i wr => ∃ k n : Nat, k ≤ S.files.length ∧ i = .int .i64 k ∧ u = .int .i64 (usedOf (S.files.take k) : Nat) ∧ wr = w.drewN n) (fun _ i _ => S.files.length - (intOf i).toNat)
  case atStart => exact ⟨0, 0, Nat.zero_le _, rfl, by simp [usedOf], rfl⟩
  case round =>
    obtain ⟨k, n, hk, rfl, rfl, rfl⟩ := hrel
    by_cases hlt : k < S.files.length
    · obtain ⟨g, cap', hv', hgl, hc⟩ := fptrs_at H.out k hlt
      rw [Hv.out] at hv'
      injection hv' with hv1 _ hv2
      subst hv1; subst hv2
      have hF := H.out.fat S.files[k] (List.getElem_mem hlt)
      have hsm := Hf.out S.files[k] (List.getElem_mem hlt)
      have htk := Lib.hid (usedOf_take hlt)
      have hus : usedOf (S.files.take k) ≤ 1000000000 * 65537 := by
        have := usedOf_le (l := S.files.take k) (fun f hf => Hf.out f (List.mem_of_mem_take hf))
        have h2 : (S.files.take k).length ≤ 1000000000 := by rw [List.length_take]; omega
        calc usedOf (S.files.take k) ≤ (S.files.take k).length * 65537 := this
          _ ≤ 1000000000 * 65537 := Nat.mul_le_mul_right _ h2
      generalize S.files[k] = M at hc hF hsm htk
      obtain ⟨la, lc, hlv⟩ := row_shape hF.last
      obtain ⟨sa, sc, hsv⟩ := row_shape hF.seen
      have d2 : w.cell? ⟨M.g, 2, none⟩ = some (.slice la M.last.length lc) := by rw [← hlv]; exact hF.blk.cell 2
      have d3 : w.cell? ⟨M.g, 3, none⟩ = some (.slice sa M.seen.length sc) := by rw [← hsv]; exact hF.blk.cell 3
      obtain ⟨hs1, hs2⟩ := hsm
      generalize hU : usedOf (S.files.take k) = U at hus htk ⊢
      have hse : ((secs (max M.seen.length M.last.length) : Nat) : Int) = ((secsOf M : Nat) : Int) := rfl
      have hsl : secsOf M ≤ 65537 := by unfold secsOf secs; omega
      have Hse := Lib.hid hse
      have Hwr := Lib.hid (show wrap64 ((U : Int) + ((secsOf M : Nat) : Int)) = ((U + secsOf M : Nat) : Int) by unfold wrap64; omega)
      clear hF hlv hsv hse
      go_wp2_with fail
      go_quiet ((go_at_call 220; first | exact quiet_left (sectors_max _ _ _ hs1 hs2) | exact quiet_add_left (sectors_max _ _ _ hs1 hs2)))
      rw [Hse.out]
      go_wp2_with fail
      go_round
      case rel => exact ⟨k + 1, _, hlt, by go_num, by rw [htk.out, Hwr.out], rfl⟩
      case measure => simp [intOf]; omega
    · obtain rfl : k = S.files.length := by omega
      go_wp2_with fail
      go_ret
      refine ⟨ret_int (by rw [List.take_length]), _, rfl⟩

theorem quiet_in {P : Program} {f : FuncId} {args : Array Value} {w : World} {n : Nat} {v : Value}
    (h : Calls P f args (w.drewN n) fun e w' => e = .returned v ∧ ∃ m, w' = (w.drewN n).drewN m) :
    Calls P f args (w.drewN n) fun e w'' => e = .returned v ∧ ∃ m, w'' = w.drewN m :=
  h.mono fun _ _ ⟨he, m, hm⟩ => ⟨he, n + m, by rw [hm, World.drewN_drewN]⟩
theorem free_nil (w : World) : Calls Tryz.prog 221 #[.pointer none] w fun e w' => e = .returned (.int .i64 0) ∧ w = w' := by
  go_enter Tryz.func221, Tryz.ntmps221
  go_wp2
  go_ret
  exact ⟨rfl, rfl⟩
theorem free_any (b : Nat) (S : DSt) (w : World) (h : DiskAt w b S) (hl : S.files.length ≤ 1000000000) (hf : Small S.files) (hm : 0 ≤ S.most ∧ S.most ≤ 32768) :
    Calls Tryz.prog 221 #[.pointer (some ⟨b, 0, none⟩)] w fun e w' => e = .returned (.int .i64 (S.most - (usedOf S.files : Nat))) ∧ ∃ n, w' = w.drewN n := by
  have c2 : w.cell? ⟨b, 2, none⟩ = some (.int .i64 S.most) := h.blk.cell 2
  have hus : usedOf S.files ≤ 1000000000 * 65537 := Nat.le_trans (usedOf_le hf) (Nat.mul_le_mul_right _ hl)
  have hU := fun n => used_any b S (w.drewN n) (h.drewN n) hl hf
  have HU := Lib.hid hU
  obtain ⟨h1, h2⟩ := hm
  generalize usedOf S.files = U at hus HU ⊢
  clear h hf hU
  go_enter Tryz.func221, Tryz.ntmps221
  go_wp2_with fail
  go_quiet ((go_at_call 270; first | exact quiet_in (HU.out _) | exact quiet_add (HU.out _)))
  go_wp2
  go_ret
  exact ⟨ret_int (by omega), _, rfl⟩
end Go.Proofs.YtaeklleogniimaaGreatDoor
