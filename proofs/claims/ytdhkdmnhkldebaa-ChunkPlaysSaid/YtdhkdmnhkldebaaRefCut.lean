/- The walk of the document's Cut (barqueref13). Condition: texts no longer than maxLen; the size an int64. -/
import Derived.Test.YtdhkdmnhkldebaaCut
namespace Go.Proofs.Ytdhkdmnhkldebaa
open Go.RowKit

theorem info_string : (Try.prog.info? 9).map (fun i => (i.zero, i.size, i.bytes)) = some (some (.string ByteArray.empty), 1, 16) := by kernel_rfl

def toL (s : ByteArray) : List UInt8 := s.data.toList
theorem toL_inj {a b : ByteArray} (h : toL a = toL b) : a = b := by
  cases a; cases b
  simp only [toL] at h
  congr
  simpa using h
theorem toL_extract (s : ByteArray) (a b : Nat) : toL (s.extract a b) = ((toL s).take b).drop a := by simp [toL, List.drop_take]
theorem toL_length (s : ByteArray) : (toL s).length = s.size := by simp [toL]

theorem more_pieces (S k j : Nat) (hk : 1 ≤ k) : (j + 1) * k < S ↔ j + 1 < npieces S k := by
  unfold npieces
  have h : j + 2 ≤ (S + k - 1) / k ↔ (j + 2) * k ≤ S + k - 1 := Nat.le_div_iff_mul_le (by omega)
  have e : (j + 2) * k = (j + 1) * k + k := by rw [Nat.succ_mul]
  rw [e] at h
  have h1 : 1 * k ≤ (j + 1) * k := Nat.mul_le_mul_right _ (by omega)
  omega

def piecesTo (s : ByteArray) (k j : Nat) : List ByteArray := (List.range j).map (piece s k)
theorem piecesTo_succ (s : ByteArray) (k j : Nat) : piecesTo s k (j + 1) = piecesTo s k j ++ [piece s k j] := by
  unfold piecesTo; rw [List.range_succ, List.map_append]; rfl
theorem piecesTo_length (s : ByteArray) (k j : Nat) : (piecesTo s k j).length = j := by simp [piecesTo]

theorem rest_front (s : ByteArray) (k j : Nat) (h : (j + 1) * k ≤ s.size) : (s.extract (j * k) s.size).extract 0 k = piece s k j := by
  apply toL_inj
  unfold piece
  rw [Nat.min_eq_left h, toL_extract, toL_extract s, toL_extract s, List.drop_zero, List.take_of_length_le (l := toL s) (i := s.size) (by rw [toL_length]; omega), Nat.succ_mul, List.drop_take]
  congr 1
  omega
theorem rest_back (s : ByteArray) (k j : Nat) : (s.extract (j * k) s.size).extract k (s.extract (j * k) s.size).size = s.extract ((j + 1) * k) s.size := by
  apply toL_inj
  rw [toL_extract, List.take_of_length_le (by rw [toL_length]; exact Nat.le_refl _), toL_extract s, toL_extract s, List.take_of_length_le (l := toL s) (by rw [toL_length]; exact Nat.le_refl _), List.drop_drop, Nat.succ_mul]
theorem rest_last (s : ByteArray) (k j : Nat) (h : s.size ≤ (j + 1) * k) : s.extract (j * k) s.size = piece s k j := by
  unfold piece
  rw [Nat.min_eq_right h]

def strLen : Value → Nat | .string t => t.size | _ => 0

set_option maxRecDepth 100000 in
set_option maxHeartbeats 2000000 in
theorem refCut_some (s : ByteArray) (k : Nat) (w : World) (hs : s.size ≤ 524288) (hk : 1 ≤ k) (hk2 : k ≤ 9223372036854775807) :
    Calls Try.prog 11 #[.string s, .int .i64 k] w (CutSays s k w) := by
  go_enter Try.func11, Try.ntmps11
  go_wp2
  go_loopw [6, 7] (fun v r wr => ∃ (j : Nat) (t : ByteArray), j ≤ 4096 ∧ r = .string t ∧ Hid (t = s.extract (j * k) s.size) ∧ j * k ≤ s.size ∧ (t.size + j * k = s.size) ∧ j + 1 ≤ npieces s.size k ∧ wr.ownsRow w.heap.size 9 1 v j ((piecesTo s k j).map Value.string) ∧ Below w.heap.size w wr) (fun _ r _ => strLen r)
  case atStart => exact ⟨0, s, by omega, rfl, (by show s = _; apply toL_inj; rw [toL_extract, List.take_of_length_le (by rw [toL_length]; omega)]; simp), by omega, by omega, by unfold npieces; omega, World.ownsRow_nil _ _ _ _, Below.refl _ _⟩
  case round =>
    obtain ⟨j, t, hj, rfl, ht, hjk, hts, hjn, hown, hbel⟩ := hrel
    have Hts := Lib.hid hts
    clear hts
    have htl : t.size ≤ 524288 := by have := Hts.out; omega
    by_cases hlt : k < t.size
    · have hj1 : (j + 1) * k < s.size := by have := Hts.out; rw [Nat.succ_mul]; omega
      have hj2 := Lib.hid ((more_pieces s.size k j hk).1 hj1)
      have hf := Lib.hid (show t.extract 0 k = piece s k j by rw [ht.out]; exact rest_front s k j (by omega))
      have hb := Lib.hid (show t.extract k t.size = s.extract ((j + 1) * k) s.size by rw [ht.out]; exact rest_back s k j)
      have hsz := Lib.hid (show (t.extract k t.size).size = t.size - k by simp)
      have hsz2 := Lib.hid (show (t.size - k) + (j + 1) * k = s.size by have := Hts.out; rw [Nat.succ_mul]; omega)
      have Hj1 := Lib.hid hj1
      clear hj1
      go_wp2_with (at_builtin; refine append_one rfl _ _ 55 rfl w.heap.size 9 1 16 Try.underlying55 _ info_string rfl (by decide) _ _ _ rfl hown [.string (t.extract 0 k)] rfl rfl (by simp [Value.oneCell']) ?c1 ?c2 ?c3 ?_)
      case c1 => unfold maxLen; omega
      case c2 => omega
      case c3 => exact hbel.size
      intro v' w1 hown3 hb3
      have hown4 : Hid (w1.ownsRow w.heap.size 9 1 v' (j + 1) ((piecesTo s k (j + 1)).map Value.string)) := by
        show w1.ownsRow w.heap.size 9 1 v' (j + 1) _
        rw [hf.out] at hown3
        rw [piecesTo_succ, List.map_append]
        exact hown3
      clear hown3
      obtain ⟨ad, cap, rfl⟩ := row_shape hown4.out
      by_cases hj4 : j + 1 ≤ 4096
      · go_wp2
        go_roundw
        case rel => exact ⟨j + 1, _, hj4, rfl, hb.out, by have := Hj1.out; omega, by rw [hsz.out]; exact hsz2.out, by have := hj2.out; omega, hown4.out, hbel.trans hb3⟩
        case measure => simp [strLen]; omega
      · have hv := Lib.hid (show cutOf s (k : Int) = ([], 7) by
          have := hj2.out
          rw [cutOf, if_neg (by omega), if_neg (by omega), Int.toNat_natCast, if_pos (by omega)])
        go_wp2
        go_ret2
        exact cutSays_mk (e := 7) hv.out (World.ownsRow_nil _ _ _ _) (hbel.trans hb3)
    · have hjn2 : Hid (npieces s.size k = j + 1) := by
        have h1 := more_pieces s.size k j hk
        have h2 := Hts.out
        have h3 : ¬ (j + 1) * k < s.size := by rw [Nat.succ_mul]; omega
        show npieces s.size k = j + 1
        omega
      have hl := Lib.hid (show t = piece s k j by rw [ht.out]; exact rest_last s k j (by have := Hts.out; rw [Nat.succ_mul]; omega))
      go_wp2_with (at_builtin; refine append_one rfl _ _ 55 rfl w.heap.size 9 1 16 Try.underlying55 _ info_string rfl (by decide) _ _ _ rfl hown [.string t] rfl rfl (by simp [Value.oneCell']) ?c1 ?c2 ?c3 ?_)
      case c1 => unfold maxLen; omega
      case c2 => omega
      case c3 => exact hbel.size
      intro v' w1 hown3 hb3
      have hown4 : Hid (w1.ownsRow w.heap.size 9 1 v' (j + 1) ((piecesTo s k (j + 1)).map Value.string)) := by
        show w1.ownsRow w.heap.size 9 1 v' (j + 1) _
        rw [hl.out] at hown3
        rw [piecesTo_succ, List.map_append]
        exact hown3
      clear hown3
      have hbel1 := hbel.trans hb3
      obtain ⟨ad, cap, rfl, hcap, hmax, hlen9, hnil, hsome⟩ := row_open hown4.out
      clear hlen9
      unfold maxLen at hmax
      have hnz : ad ≠ none := fun h => by have := hnil h; omega
      cases ad with
      | none => exact absurd rfl hnz
      | some x =>
      obtain ⟨g, rfl, hg1, hg2, hcell⟩ := hsome x rfl
      have Hcell := Lib.hid hcell
      clear hnil hsome hnz hcell
      by_cases hj4 : j + 1 ≤ 4096
      · go_wp2
        obtain ⟨wo, hwo⟩ : ∃ wo : World, wo = w1 := ⟨_, rfl⟩
        subst hwo
        go_loopw [8, 9] (fun v i wr => ∃ m : Nat, m ≤ j + 1 ∧ i = .int .i64 m ∧ wr.ownsRow wo.heap.size 36 3 v m (pscells ((cutParts s k).take m)) ∧ Below wo.heap.size wo wr) (fun _ i _ => j + 1 - (intOf i).toNat)
        case atStart => exact ⟨0, by omega, rfl, World.ownsRow_nil _ _ _ _, Below.refl _ _⟩
        case round =>
          obtain ⟨m, hm, rfl, hownm, hbelm⟩ := hrel
          by_cases hmlt : m < j + 1
          · have hcm : wr.cell? ⟨g, m, none⟩ = some (.string (piece s k m)) := by
              rw [hbelm.cell (p := ⟨g, m, none⟩) hg2, Hcell.out m hmlt, List.getElem?_map, piecesTo, List.getElem?_map, List.getElem?_range hmlt]
              rfl
            have hstep := Lib.hid (cutParts_step s k m (by rw [hjn2.out]; exact hmlt))
            have hge : w.heap.size ≤ wo.heap.size := hbel1.size
            go_wp2_with (at_builtin; refine append_one rfl _ _ 22 rfl wo.heap.size 36 3 32 Try.underlying22 _ info_part rfl (by decide) _ _ _ rfl hownm [.int .i64 m, .int .i64 ((j : Int) + 1), .string (piece s k m)] rfl rfl (by simp [Value.oneCell']) ?c1 ?c2 ?c3 ?_)
            case c1 => unfold maxLen; omega
            case c2 => omega
            case c3 => exact hbelm.size
            intro v' w2 hown5 hb5
            have hown6 : Hid (w2.ownsRow wo.heap.size 36 3 v' (m + 1) (pscells ((cutParts s k).take (m + 1)))) := by
              show w2.ownsRow wo.heap.size 36 3 v' (m + 1) _
              rw [hstep.out, pscells_snoc, hjn2.out]
              exact hown5
            clear hown5
            go_wp2
            go_roundw
            case rel => exact ⟨m + 1, by omega, by go_num, hown6.out, hbelm.trans hb5⟩
            case measure => simp [intOf]; omega
          · have hmj := Lib.hid (show m = j + 1 by omega)
            have hcut : Hid (cutOf s (k : Int) = (cutParts s k, 0)) := by
              have h1 := hjn2.out
              show cutOf s (k : Int) = (cutParts s k, 0)
              rw [cutOf, if_neg (by omega), if_neg (by omega), Int.toNat_natCast, if_neg (by omega)]
            have htk := Lib.hid (show (cutParts s k).take m = cutParts s k from List.take_of_length_le (by rw [cutParts_length, hjn2.out, hmj.out]; exact Nat.le_refl _))
            have hln := Lib.hid (show (cutParts s k).length = m by rw [cutParts_length, hjn2.out, hmj.out])
            go_wp2
            go_ret2
            refine cutSays_mk (e := 0) hcut.out ?_ (hbel1.trans (hbelm.mono hbel1.size))
            rw [hln.out]
            rw [htk.out] at hownm
            exact row_base hownm hbel1.size
      · have hv := Lib.hid (show cutOf s (k : Int) = ([], 7) by
          have := hjn2.out
          rw [cutOf, if_neg (by omega), if_neg (by omega), Int.toNat_natCast, if_pos (by omega)])
        go_wp2
        go_ret2
        exact cutSays_mk (e := 7) hv.out (World.ownsRow_nil _ _ _ _) hbel1

set_option maxHeartbeats 400000 in
theorem refCut_any (s : ByteArray) (size : Int) (w : World) (hs : s.size ≤ maxLen) (hsz : -9223372036854775808 ≤ size ∧ size ≤ 9223372036854775807) :
    Calls Try.prog 11 #[.string s, .int .i64 size] w (CutSays s size w) := by
  unfold maxLen at hs
  by_cases h1 : size < 1
  · have hv := Lib.hid (show cutOf s size = ([], 1) by rw [cutOf, if_pos h1])
    go_enter Try.func11, Try.ntmps11
    go_wp2
    go_ret2
    exact cutSays_mk (e := 1) hv.out (World.ownsRow_nil _ _ _ _) (Below.refl _ _)
  · obtain ⟨k, rfl⟩ := Int.eq_ofNat_of_zero_le (show 0 ≤ size by omega)
    by_cases h2 : 524288 < s.size
    · have hv := Lib.hid (show cutOf s (k : Int) = ([], 4) by rw [cutOf, if_neg h1, if_pos h2])
      go_enter Try.func11, Try.ntmps11
      go_wp2
      go_ret2
      exact cutSays_mk (e := 4) hv.out (World.ownsRow_nil _ _ _ _) (Below.refl _ _)
    · exact refCut_some s k w (by omega) (by omega) (by omega)
end Go.Proofs.Ytdhkdmnhkldebaa
