/- The walk of sign.Right at a signature that Sign made. Condition: the sizes. -/
import Derived.Test.YtogobhpnlndcaaaGreatSign2
namespace Go.Proofs.YtogobhpnlndcaaaGreat
open Go Go.RowKit
set_option linter.unusedVariables false

theorem weakV_at (S : List UInt8) (bl n k : Nat) (hk : k < n) : (weakV S bl n)[k]? = some (.int .i64 (wsum (pcB S bl k) : Nat)) := by
  unfold weakV
  rw [List.getElem?_map, List.getElem?_range hk]
  rfl
theorem strongV_at (B : List ByteArray) (S : List UInt8) (bl n k : Nat) (hk : k < n) : (strongV B S bl n)[k]? = some (.string (markOf B (pcB S bl k))) := by
  unfold strongV
  rw [List.getElem?_map, List.getElem?_range hk]
  rfl
theorem markOf_size (B : List ByteArray) (s : ByteArray) : (markOf B s).size = 32 := numb_size _
/-- a signature's two rows -/
def SigRows (w : World) (base : Nat) (B : List ByteArray) (S : List UInt8) (bl n : Nat) (wv sv : Value) : Prop :=
  w.ownsRow base 3 1 wv n (weakV S bl n) ∧ w.ownsRow base 9 1 sv n (strongV B S bl n)
theorem SigRows.below {w w' : World} {base : Nat} {B : List ByteArray} {S : List UInt8} {bl n : Nat} {wv sv : Value} (h : SigRows w base B S bl n wv sv) (hb : Below w.heap.size w w') : SigRows w' base B S bl n wv sv := ⟨ownsRow_below h.1 hb, ownsRow_below h.2 hb⟩
set_option maxRecDepth 100000 in
set_option maxHeartbeats 4000000 in
theorem signRight_any (base : Nat) (B : List ByteArray) (S : List UInt8) (bl : Nat) (wv sv : Value) (w : World) (h : SigRows w base B S bl (npc S.length bl) wv sv) (hS : S.length ≤ 524288) (h1 : 16 ≤ bl) (h2 : bl ≤ 1024) :
    Calls Tryz.prog 76 #[.agg #[.int .i64 (bl : Int), .int .i64 (S.length : Int), wv, sv]] w fun e w' => e = .returned (.bool true) ∧ Below w.heap.size w w' := by
  obtain ⟨wa, wc, rfl⟩ := row_shape h.1
  obtain ⟨sa, sc, rfl⟩ := row_shape h.2
  have hn := npc_le (size := S.length) (bl := bl) (by omega)
  have HC := Lib.hid (fun w' => count_any S.length bl w' (by omega) h2 (by omega))
  have HF := Lib.hid (fun w' => fits_any bl w' h1 h2)
  obtain ⟨n, hnn⟩ : ∃ n, n = npc S.length bl := ⟨_, rfl⟩
  rw [← hnn] at h hn HC ⊢
  have HB0 := Lib.hid ((Below.refl w.heap.size w).alloc (Nat.le_refl _) (.cells #[.int .i64 (bl : Int), .int .i64 (S.length : Int), .slice wa n wc, .slice sa n sc] 73))
  have HQ := Lib.hid (Blk.new w [.int .i64 (bl : Int), .int .i64 (S.length : Int), .slice wa n wc, .slice sa n sc] 73)
  have HR := Lib.hid (h.below ((Below.refl w.heap.size w).alloc (Nat.le_refl _) (.cells #[.int .i64 (bl : Int), .int .i64 (S.length : Int), .slice wa n wc, .slice sa n sc] 73)))
  clear h hnn
  go_enter Tryz.func76, Tryz.ntmps76
  go_upto_region 1 with fail
  generalize w.alloc (.cells #[.int .i64 (bl : Int), .int .i64 (S.length : Int), .slice wa n wc, .slice sa n sc] 73) = w0 at HB0 HQ HR ⊢
  generalize w.heap.size = q at HQ ⊢
  have c0 : w0.cell? ⟨q, 0, none⟩ = some (.int .i64 (bl : Int)) := HQ.out.cell 0
  have c1 : w0.cell? ⟨q, 1, none⟩ = some (.int .i64 (S.length : Int)) := HQ.out.cell 1
  have c2 : w0.cell? ⟨q, 2, none⟩ = some (.slice wa n wc) := HQ.out.cell 2
  have c3 : w0.cell? ⟨q, 3, none⟩ = some (.slice sa n sc) := HQ.out.cell 3
  have hz : ¬ ((S.length : Int) < 0) := by omega
  have hz2 : ¬ ((524288 : Int) < (S.length : Int)) := by omega
  have hne : ((n : Int) != (n : Int)) = false := by simp
  go_quiet (first
    | (go_at_call 55; first | exact quiet_left (HF.out _) | exact quiet_add_left (HF.out _))
    | (go_at_call 56; first | exact quiet_left (HC.out _) | exact quiet_add_left (HC.out _)))
  have HB1 := Lib.hid (below_drewN HB0.out nq)
  have HQ1 := Lib.hid (HQ.out.drewN nq)
  have HR1 := Lib.hid (HR.out.below (below_drewN (Below.refl _ _) nq))
  generalize w0.drewN nq = w1 at HB1 HQ1 HR1 ⊢
  clear c0 c1 c2 c3 HB0 HQ HR HC HF
  have c2 : w1.cell? ⟨q, 2, none⟩ = some (.slice wa n wc) := HQ1.out.cell 2
  have c3 : w1.cell? ⟨q, 3, none⟩ = some (.slice sa n sc) := HQ1.out.cell 3
  go_wp2_with fail
  go_loopw [42] (fun kv wr => ∃ k : Nat, kv = .int .i64 (k : Int) ∧ k ≤ n ∧ w1 = wr) (fun kv _ => n - (intOf kv).toNat)
  case atStart => exact ⟨0, rfl, Nat.zero_le _, rfl⟩
  case round =>
    obtain ⟨k, rfl, hk, rfl⟩ := hrel
    by_cases hlt : k < n
    · obtain ⟨g, cp, hga, _, _, _, _, hgc⟩ := row_some HR1.out.1 (by omega)
      obtain ⟨g2, cp2, hga2, _, _, _, _, hgc2⟩ := row_some HR1.out.2 (by omega)
      have e1 : w1.cell? ⟨g, k, none⟩ = some (.int .i64 (wsum (pcB S bl k) : Nat)) := by rw [hgc k (by omega)]; exact weakV_at S bl n k hlt
      have e2 : w1.cell? ⟨g2, k, none⟩ = some (.string (markOf B (pcB S bl k))) := by rw [hgc2 k (by omega)]; exact strongV_at B S bl n k hlt
      injection hga with hga _ _
      injection hga2 with hga2 _ _
      subst hga hga2
      have hx := wsum_lt (pcB S bl k)
      have hm := markOf_size B (pcB S bl k)
      generalize wsum (pcB S bl k) = x at e1 hx
      generalize markOf B (pcB S bl k) = mk at e2 hm
      have hx1 : ¬ ((x : Int) < 0) := by omega
      have hx2 : ¬ ((4294967295 : Int) < (x : Int)) := by omega
      have hm2 : ((mk.size : Int) != 32) = false := by rw [hm]; rfl
      clear hgc hgc2 hm
      go_wp2_with fail
      go_roundw
      case rel => exact ⟨k + 1, by go_num, by omega, trivial⟩
      case measure => simp [intOf]; omega
    · go_wp2_with fail
      go_ret
      exact ⟨rfl, HB1.out⟩
end Go.Proofs.YtogobhpnlndcaaaGreat
