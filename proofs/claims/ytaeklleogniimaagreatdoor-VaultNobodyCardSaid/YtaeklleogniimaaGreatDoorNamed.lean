/- What names a file may have. No condition. -/
import Derived.Test.YtaeklleogniimaaGreatDoorInsert
import Derived.Laws.IdiomStrings
namespace Go.Proofs.YtaeklleogniimaaGreatDoor
open Go.RowKit

def okByte (c : UInt8) : Bool := decide (33 ≤ c.toNat) && decide (c.toNat ≤ 126)
def okName (s : ByteArray) : Bool := s.data.toList.all okByte && (decide (0 < s.size) && decide (s.size ≤ 24))

theorem notEmpty (s : ByteArray) (h : 0 < s.size) : s.toList.isEmpty = false := by
  rw [ByteArray.toList_eq]
  cases hq : s.data.toList with
  | nil =>
    have h2 : s.data.size = 0 := by simp at hq; rw [hq]; rfl
    have h3 : 0 < s.data.size := h
    omega
  | cons a l => rfl
theorem bytes_block {w : World} {C : Array Value} {e : TypeId} {m : Nat × Nat} {s : ByteArray} {cap : Nat} (hC : C = bytesRow s cap) :
    (∀ j (hj : j < s.size), ((w.alloc (.cells C e m)).drew).cell? ⟨w.heap.size, j, none⟩ = some (.int .u8 (s[j].toNat : Int))) ∧ Below w.heap.size w ((w.alloc (.cells C e m)).drew) := by
  refine ⟨fun j hj => ?_, (((Below.refl _ w).alloc (Nat.le_refl _) _).drew)⟩
  show (w.drew.alloc (.cells C e m)).cell? _ = _
  have h1 : (w.drew.alloc (.cells C e m)).heap[w.heap.size]? = some (.cells C e m) := heap_alloc_new w.drew _
  have h2 := bytesRow_at s cap j hj
  simp only [World.cell?, h1]
  rw [hC]
  have e : s.data[j].toNat = s[j].toNat := rfl
  rw [e] at h2
  simpa using h2

set_option maxRecDepth 100000 in
theorem named_any (s : ByteArray) (w : World) : Calls Tryz.prog 208 #[.string s] w fun e w' => e = .returned (.bool (okName s)) ∧ Below w.heap.size w w' := by
  by_cases h1 : s.size = 0 ∨ 24 < s.size
  · have e : okName s = false := by
      unfold okName
      rcases h1 with h1 | h1
      · rw [decide_eq_false (show ¬ 0 < s.size by omega)]; simp
      · rw [decide_eq_false (show ¬ s.size ≤ 24 by omega)]; simp
    rw [e]
    by_cases h0 : s.size = 0
    · obtain rfl := ByteArray.size_eq_zero_iff.1 h0
      clear h1 e h0
      go_enter Tryz.func208, Tryz.ntmps208
      go_wp2
      all_goals (go_ret; exact ⟨rfl, Below.refl _ _⟩)
    · have hem2 := notEmpty s (by omega)
      have hem3 : ¬ s.toList = [] := by intro h; rw [h] at hem2; simp at hem2
      have h24 : (24 : Int) < (s.size : Int) := by omega
      clear h1 e
      go_enter Tryz.func208, Tryz.ntmps208
      go_wp2
      all_goals (go_ret; exact ⟨rfl, Below.refl _ _⟩)
  · have h2 : s.size ≠ 0 ∧ s.size ≤ 24 := by omega
    have hem2 := notEmpty s (by omega)
    have hnil : ¬ s.toList = [] := by
      intro h; rw [h] at hem2; simp at hem2
    have hd : (s.toList.isEmpty || decide (24 < (s.size : Int))) = false := by rw [hem2]; simp; omega
    have hok : okName s = s.data.toList.all okByte := by
      unfold okName
      rw [decide_eq_true (show 0 < s.size by omega), decide_eq_true h2.2]; simp
    rw [hok]
    have hcv2 := fun w s => run_bytes_of_string (P := Tryz.prog) w 9 134 5 s Tryz.underlying9 Tryz.underlying134 Tryz.underlying5
    clear h1 hok
    go_enter Tryz.func208, Tryz.ntmps208
    go_wp2_with fail
    obtain ⟨hC, hB⟩ := bytes_block (w := w) (C := bytesRow s (grownCap w s.size 0 5)) (e := 5) (m := ((bytesRow s (grownCap w s.size 0 5)).size, (bytesRow s (grownCap w s.size 0 5)).size + 1)) rfl
    have hcap : s.size ≤ grownCap w s.size 0 5 := grownCap_ge w _ _ _
    generalize ((w.alloc (Obj.cells (bytesRow s (grownCap w s.size 0 5)) 5 ((bytesRow s (grownCap w s.size 0 5)).size, (bytesRow s (grownCap w s.size 0 5)).size + 1))).drew) = w1 at hC hB ⊢
    generalize grownCap w s.size 0 5 = cap at hcap ⊢
    obtain ⟨H, hH⟩ : ∃ H, H = w.heap.size := ⟨_, rfl⟩
    have HB := Lib.hid hB
    rw [← hH] at hC ⊢
    have HC := Lib.hid hC
    clear hB hH hcv2 hC
    go_loop [15] (fun i => ∃ k : Nat, k ≤ s.size ∧ i = .int .i64 k ∧ Hid (∀ x ∈ s.data.toList.take k, okByte x = true)) (fun i => s.size - (intOf i).toNat)
    case atStart => exact ⟨0, by omega, rfl, Lib.hid (fun x hx => by simp at hx)⟩
    case round =>
      obtain ⟨k, hk, rfl, Hk⟩ := hrel
      by_cases hlt : k < s.size
      · have hcell := HC.out k hlt
        have hb := (s[k]).toNat_lt
        by_cases hok : okByte s[k] = true
        · have hok2 := hok
          unfold okByte at hok2
          simp only [Bool.and_eq_true, decide_eq_true_eq] at hok2
          have hn := Lib.hid (show ∀ x ∈ s.data.toList.take (k + 1), okByte x = true from fun x hx => by
            rw [take_snoc s k hlt] at hx
            rcases List.mem_append.1 hx with h | h
            · exact Hk.out x h
            · rw [List.mem_singleton.1 h]; exact hok)
          generalize s[k].toNat = b at hcell hb hok2
          clear hok
          have hd1 : (decide ((b : Int) < 33) || decide (126 < (b : Int))) = false := by
            simp only [Bool.or_eq_false_iff, decide_eq_false_iff_not]; omega
          go_wp2_with fail
          go_round
          case rel => exact ⟨k + 1, hlt, by go_num, hn⟩
          case measure => simp [intOf]; omega
        · have hall : s.data.toList.all okByte = false := by
            rw [Bool.eq_false_iff]
            intro h
            rw [List.all_eq_true] at h
            exact hok (h s[k] (by
              exact List.mem_iff_getElem.2 ⟨k, by rw [Array.length_toList]; exact hlt, by rw [Array.getElem_toList]; rfl⟩))
          have hok2 := hok
          unfold okByte at hok2
          simp only [Bool.and_eq_true, decide_eq_true_eq] at hok2
          generalize s[k].toNat = b at hcell hb hok2
          clear hok
          have hd1 : (decide ((b : Int) < 33) || decide (126 < (b : Int))) = true := by
            simp only [Bool.or_eq_true, decide_eq_true_eq]; omega
          go_wp2_with fail
          all_goals first
            | (exfalso; omega)
            | (go_ret; exact ⟨ret_bool hall.symm, HB.out⟩)
            | (go_ret; exact ⟨rfl, HB.out⟩)
      · obtain rfl : k = s.size := by omega
        have hall : s.data.toList.all okByte = true := by
          rw [List.all_eq_true]
          intro x hx
          refine Hk.out x ?_
          rw [List.take_of_length_le (by rw [Array.length_toList]; exact Nat.le_refl _)]
          exact hx
        go_wp2_with fail
        go_ret
        exact ⟨rfl, HB.out⟩
end Go.Proofs.YtaeklleogniimaaGreatDoor
