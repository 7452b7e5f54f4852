/- delta.Right at a delta that makes a text: true. Condition: the sizes. The walk of sign.Right at a signature that Sign made. Condition: the sizes. -/
import Derived.Test.YtaemlplcjjbamaaGreatDoorBMakerCopy
import Derived.Test.YtaemlplcjjbamaaGreatDoorBMarked
import Derived.Test.YtaemlplcjjbamaaGreatDoorBSign2
namespace Go.Proofs.YtaemlplcjjbamaaGreatDoor
open Go Go.RowKit
set_option linter.unusedVariables false
theorem ba_list2 (l : List UInt8) : (ba l).toList = l := by
  rw [ByteArray.toList_eq]
  simp [ba]
theorem ba_full {t : List UInt8} (h : t ≠ []) : (ba t).toList.isEmpty = false := by
  rw [ba_list2]
  cases t with
  | nil => exact absurd rfl h
  | cons => rfl
theorem ba_empty : (ba []).toList.isEmpty = true := by rw [ba_list2]; rfl
set_option maxRecDepth 100000 in
set_option maxHeartbeats 4000000 in
theorem stepRight_any (x : Stp) (b : Int) (w : World) (h : stpOk x b) (hb : -1 ≤ b) (hb2 : b ≤ 1048576) :
    Calls Tryz.prog 183 #[.agg #[.int .i64 x.at_, .int .i64 x.len, .string (ba x.text)], .int .i64 b] w fun e w' => e = .returned (.bool true) ∧ Below w.heap.size w w' := by
  obtain ⟨a, n, t⟩ := x
  have HB := Lib.hid ((Below.refl w.heap.size w).alloc (Nat.le_refl _) (.cells #[.int .i64 a, .int .i64 n, .string (ba t)] 221))
  have hsz := ba_size t
  rcases h with ⟨h1, h2, h3, h4⟩ | ⟨h1, h2, h3, h4, h5, h6⟩
  · simp only at h1 h2 h3 h4
    subst h2 h3
    have hl : 0 < t.length := List.length_pos_iff.2 h1
    have he := ba_full h1
    clear h1
    go_enter Tryz.func183, Tryz.ntmps183
    go_wp2_with fail
    go_ret
    exact ⟨by first | rfl | exact ret_bool (by simp; omega), HB.out⟩
  · simp only at h1 h2 h3 h4 h5 h6
    subst h1
    have he := ba_empty
    clear hsz
    go_enter Tryz.func183, Tryz.ntmps183
    go_wp2_with fail
    all_goals
      go_ret
      exact ⟨by first | rfl | exact ret_bool (by simp; omega), HB.out⟩
end Go.Proofs.YtaemlplcjjbamaaGreatDoor
namespace Go.Proofs.YtaemlplcjjbamaaGreatDoor
open Go Go.RowKit
set_option linter.unusedVariables false
theorem outS_take_le {O : List UInt8} {l : List Stp} (k : Nat) : (outS O (l.take k)).length ≤ (outS O l).length := by
  conv => rhs; rw [← List.take_append_drop k l]
  rw [outS_append, List.length_append]
  omega
theorem outS_take_succ {O : List UInt8} {l : List Stp} {k : Nat} {x : Stp} (h : l[k]? = some x) (hx : stpOk x (O.length : Nat)) : ((outS O (l.take (k + 1))).length : Int) = (outS O (l.take k)).length + (x.len + (x.text.length : Nat)) := by
  have hk : k < l.length := (List.getElem?_eq_some_iff.1 h).1
  have e : l.take (k + 1) = l.take k ++ [x] := by
    rw [List.take_add_one, h]
    rfl
  rw [e, outS_append, List.length_append, outS_cons]
  have := stpOut_len hx
  unfold stpN at this
  simp only [outS, List.flatMap_nil, List.append_nil]
  omega
/-- a delta's value -/
def dlV (bm sm : ByteArray) (n : Nat) (sv : Value) : Value := .agg #[.string bm, .string sm, .int .i64 (n : Int), sv]
set_option maxRecDepth 100000 in
set_option maxHeartbeats 4000000 in
theorem dRight_any (bm sm : ByteArray) (sv : Value) (base : Nat) (O T : List UInt8) (l : List Stp) (w : World) (hb : bm.size = 32) (hs : sm.size = 32) (hr : w.ownsRow base 221 3 sv l.length (stpsV l)) (hm : Mk O l T) (hT : T.length ≤ 524288) :
    Calls Tryz.prog 153 #[dlV bm sm T.length sv] w fun e w' => e = .returned (.bool true) ∧ Below w.heap.size w w' := by
  have HM := Lib.hid hm
  have hlT : l.length ≤ T.length := by rw [← hm.out]; exact outS_count l hm.ok
  have HRw := Lib.hid hr
  obtain ⟨sa, sc, rfl⟩ := row_shape hr
  have HB0 := Lib.hid ((Below.refl w.heap.size w).alloc (Nat.le_refl _) (.cells #[.string bm, .string sm, .int .i64 (T.length : Int), .slice sa l.length sc] 196))
  have HQ := Lib.hid (Blk.new w [.string bm, .string sm, .int .i64 (T.length : Int), .slice sa l.length sc] 196)
  clear hr hm
  unfold dlV
  go_enter Tryz.func153, Tryz.ntmps153
  go_upto_region 1 with fail
  generalize w.alloc (.cells #[.string bm, .string sm, .int .i64 (T.length : Int), .slice sa l.length sc] 196) = w0 at HB0 HQ ⊢
  obtain ⟨gx, hgx⟩ : ∃ gx, gx = w.heap.size := ⟨_, rfl⟩
  rw [← hgx] at HQ HB0 ⊢
  have Hgx := Lib.hid hgx
  have HR0 := Lib.hid (ownsRow_below HRw.out (hgx ▸ HB0.out))
  clear hgx HRw
  have c0 : w0.cell? ⟨gx, 0, none⟩ = some (.string bm) := HQ.out.cell 0
  have c1 : w0.cell? ⟨gx, 1, none⟩ = some (.string sm) := HQ.out.cell 1
  have c2 : w0.cell? ⟨gx, 2, none⟩ = some (.int .i64 (T.length : Int)) := HQ.out.cell 2
  have c3 : w0.cell? ⟨gx, 3, none⟩ = some (.slice sa l.length sc) := HQ.out.cell 3
  have hgl := HQ.out.lt
  obtain ⟨m, hm⟩ : ∃ m, m = l.length := ⟨_, rfl⟩
  rw [← hm] at c3 hlT
  have Hm := Lib.hid hm
  clear hm
  go_wp2_with fail
  go_loopw [3, 35] (fun nv kv wr => ∃ k : Nat, kv = .int .i64 (k : Int) ∧ k ≤ m ∧ nv = .int .i64 ((outS O (l.take k)).length : Nat) ∧ Hid (Below w0.heap.size w0 wr)) (fun _ kv _ => m - (intOf kv).toNat)
  case atStart => exact ⟨0, rfl, Nat.zero_le _, rfl, Lib.hid (Below.refl _ _)⟩
  case round =>
    obtain ⟨k, rfl, hk, rfl, HB⟩ := hrel
    have hszr := HB.out.size
    have d2 : wr.cell? ⟨gx, 2, none⟩ = some (.int .i64 (T.length : Int)) := (HQ.out.below HB.out).cell 2
    obtain ⟨o, ho⟩ : ∃ o, o = (outS O (l.take k)).length := ⟨_, rfl⟩
    rw [← ho]
    have Ho := Lib.hid ho
    have hoT : o ≤ T.length := by rw [ho, ← HM.out.out]; exact outS_take_le k
    clear ho
    by_cases hlt : k < m
    · obtain ⟨g, cap, hv, hg2, hg3, hg4, hg6, hg5⟩ := row_some HR0.out (by have := Hm.out; omega)
      simp only [Value.slice.injEq, true_and] at hv
      obtain ⟨rfl, rfl⟩ := hv
      obtain ⟨x, hx⟩ : ∃ x, l[k]? = some x := ⟨_, List.getElem?_eq_getElem (by have := Hm.out; omega)⟩
      obtain ⟨v1, v2, v3⟩ := stpsV_at hx
      have hml := Hm.out
      have hcell : ∀ j, j < l.length * 3 → wr.cell? ⟨g, j, none⟩ = (stpsV l)[j]? := fun j hj => (World.cell?_of_block (w := w0) (a := ⟨g, j, none⟩) (HB.out.block g hg3)).trans (hg5 j hj)
      have e1 := (hcell (k * 3) (by omega)).trans v1
      have e2 := (hcell (k * 3 + 1) (by omega)).trans v2
      have e3 := (hcell (k * 3 + 2) (by omega)).trans v3
      have hok := HM.out.ok x (List.mem_of_getElem? hx)
      have hnx := outS_take_succ hx hok
      have hle := outS_take_le (O := O) (l := l) (k + 1)
      rw [HM.out.out] at hle
      have hmx := List.mem_of_getElem? hx
      have HSt := Lib.hid (fun w' => stepRight_any x (-1) w' hok.any (by omega) (by omega))
      obtain ⟨xa, xl, xt⟩ := x
      simp only at e1 e2 e3 hnx
      obtain ⟨o2, ho2⟩ : ∃ o2, o2 = (outS O (l.take (k + 1))).length := ⟨_, rfl⟩
      rw [← ho2, ← Ho.out] at hnx
      rw [← ho2] at hle
      have Ho2 := Lib.hid ho2
      have hxt := ba_size xt
      obtain ⟨q1, q2, q3⟩ : 0 ≤ xl ∧ xl ≤ 524288 ∧ xt.length ≤ 524288 := by
        rcases hok with ⟨_, a2, a3, a4⟩ | ⟨a1, a2, a3, a4, a5, a6⟩
        · simp only at a2 a3 a4; omega
        · simp only at a1 a2 a3 a4
          subst a1
          simp
          omega
      have hsum : (o : Int) + (xl + (xt.length : Nat)) = (o2 : Int) := hnx.symm
      have hle2 : ¬ T.length < o2 := by omega
      have HBx := Lib.hid (Blk.new wr [.int .i64 xa, .int .i64 xl, .string (ba xt)] 221)
      have HBw := Lib.hid (HB.out.alloc hszr (.cells #[.int .i64 xa, .int .i64 xl, .string (ba xt)] 221))
      have HQr := Lib.hid (HQ.out.below HB.out)
      clear hg5 hcell v1 v2 v3 hx hok hmx ho2 hml hnx
      go_wp2_with fail
      refine (HSt.out _).mono ?_
      clear HSt
      rintro e w2 ⟨rfl, hb2⟩
      have HB2 := Lib.hid (HBw.out.trans (hb2.mono (by simp; omega)))
      have hbx2 := HBx.out.below hb2
      have k1 := hbx2.cell 1
      have k2 := hbx2.cell 2
      have d22 : w2.cell? ⟨gx, 2, none⟩ = some (.int .i64 (T.length : Int)) := (HQ.out.below HB2.out).cell 2
      simp only [List.getElem?_cons_zero, List.getElem?_cons_succ] at k1 k2
      clear hb2 hbx2 HBx HBw HQr e1 e2 e3
      generalize wr.heap.size = qx at k1 k2 ⊢
      go_wp2_with fail
      go_roundw
      case rel => exact ⟨k + 1, by go_num, by omega, by rw [← Ho2.out], HB2⟩
      case measure => simp [intOf]; omega
    · have hkm : k = m := by omega
      subst hkm
      have hoe : o = T.length := by rw [Ho.out, Hm.out, List.take_of_length_le (Nat.le_refl _), HM.out.out]
      subst hoe
      go_wp2_with fail
      go_ret
      exact ⟨by first | rfl | exact ret_bool (by simp), by rw [← Hgx.out]; exact HB0.out.trans (HB.out.mono (Nat.le_of_lt hgl))⟩
end Go.Proofs.YtaemlplcjjbamaaGreatDoor
namespace Go.Proofs.YtaemlplcjjbamaaGreatDoor
open Go Go.RowKit
set_option linter.unusedVariables false
theorem weakV_at (S : List UInt8) (bl n k : Nat) (hk : k < n) : (weakV S bl n)[k]? = some (.int .i64 (wsum (pcB S bl k) : Nat)) := by
  unfold weakV
  rw [List.getElem?_map, List.getElem?_range hk]
  rfl
theorem strongV_at (B : List ByteArray) (S : List UInt8) (bl n k : Nat) (hk : k < n) : (strongV B S bl n)[k]? = some (.string (markOf B (pcB S bl k))) := by
  unfold strongV
  rw [List.getElem?_map, List.getElem?_range hk]
  rfl
theorem markOf_size (B : List ByteArray) (s : ByteArray) : (markOf B s).size = 32 := numb_size _
/-- a signature's two rows -/
def SigRows (w : World) (base : Nat) (B : List ByteArray) (S : List UInt8) (bl n : Nat) (wv sv : Value) : Prop :=
  w.ownsRow base 3 1 wv n (weakV S bl n) ∧ w.ownsRow base 9 1 sv n (strongV B S bl n)
theorem SigRows.below {w w' : World} {base : Nat} {B : List ByteArray} {S : List UInt8} {bl n : Nat} {wv sv : Value} (h : SigRows w base B S bl n wv sv) (hb : Below w.heap.size w w') : SigRows w' base B S bl n wv sv := ⟨ownsRow_below h.1 hb, ownsRow_below h.2 hb⟩
set_option maxRecDepth 100000 in
set_option maxHeartbeats 4000000 in
theorem signRight_any (base : Nat) (B : List ByteArray) (S : List UInt8) (bl : Nat) (wv sv : Value) (w : World) (h : SigRows w base B S bl (npc S.length bl) wv sv) (hS : S.length ≤ 524288) (h1 : 16 ≤ bl) (h2 : bl ≤ 1024) :
    Calls Tryz.prog 192 #[.agg #[.int .i64 (bl : Int), .int .i64 (S.length : Int), wv, sv]] w fun e w' => e = .returned (.bool true) ∧ Below w.heap.size w w' := by
  obtain ⟨wa, wc, rfl⟩ := row_shape h.1
  obtain ⟨sa, sc, rfl⟩ := row_shape h.2
  have hn := npc_le (size := S.length) (bl := bl) (by omega)
  have HC := Lib.hid (fun w' => signCount_any S.length bl w' (by omega) h2 (by omega))
  have HF := Lib.hid (fun w' => signFits_any bl w' h1 h2)
  obtain ⟨n, hnn⟩ : ∃ n, n = npc S.length bl := ⟨_, rfl⟩
  rw [← hnn] at h hn HC ⊢
  have HB0 := Lib.hid ((Below.refl w.heap.size w).alloc (Nat.le_refl _) (.cells #[.int .i64 (bl : Int), .int .i64 (S.length : Int), .slice wa n wc, .slice sa n sc] 214))
  have HQ := Lib.hid (Blk.new w [.int .i64 (bl : Int), .int .i64 (S.length : Int), .slice wa n wc, .slice sa n sc] 214)
  have HR := Lib.hid (h.below ((Below.refl w.heap.size w).alloc (Nat.le_refl _) (.cells #[.int .i64 (bl : Int), .int .i64 (S.length : Int), .slice wa n wc, .slice sa n sc] 214)))
  clear h hnn
  go_enter Tryz.func192, Tryz.ntmps192
  go_upto_region 1 with fail
  generalize w.alloc (.cells #[.int .i64 (bl : Int), .int .i64 (S.length : Int), .slice wa n wc, .slice sa n sc] 214) = w0 at HB0 HQ HR ⊢
  generalize w.heap.size = q at HQ ⊢
  have c0 : w0.cell? ⟨q, 0, none⟩ = some (.int .i64 (bl : Int)) := HQ.out.cell 0
  have c1 : w0.cell? ⟨q, 1, none⟩ = some (.int .i64 (S.length : Int)) := HQ.out.cell 1
  have c2 : w0.cell? ⟨q, 2, none⟩ = some (.slice wa n wc) := HQ.out.cell 2
  have c3 : w0.cell? ⟨q, 3, none⟩ = some (.slice sa n sc) := HQ.out.cell 3
  have hz : ¬ ((S.length : Int) < 0) := by omega
  have hz2 : ¬ ((524288 : Int) < (S.length : Int)) := by omega
  have hne : ((n : Int) != (n : Int)) = false := by simp
  go_quiet (first
    | (go_at_call 170; first | exact quiet_left (HF.out _) | exact quiet_add_left (HF.out _))
    | (go_at_call 171; first | exact quiet_left (HC.out _) | exact quiet_add_left (HC.out _)))
  have HB1 := Lib.hid (below_drewN HB0.out nq)
  have HQ1 := Lib.hid (HQ.out.drewN nq)
  have HR1 := Lib.hid (HR.out.below (below_drewN (Below.refl _ _) nq))
  generalize w0.drewN nq = w1 at HB1 HQ1 HR1 ⊢
  clear c0 c1 c2 c3 HB0 HQ HR HC HF
  have c2 : w1.cell? ⟨q, 2, none⟩ = some (.slice wa n wc) := HQ1.out.cell 2
  have c3 : w1.cell? ⟨q, 3, none⟩ = some (.slice sa n sc) := HQ1.out.cell 3
  go_wp2_with fail
  go_loopw [42] (fun kv wr => ∃ k : Nat, kv = .int .i64 (k : Int) ∧ k ≤ n ∧ w1 = wr) (fun kv _ => n - (intOf kv).toNat)
  case atStart => exact ⟨0, rfl, Nat.zero_le _, rfl⟩
  case round =>
    obtain ⟨k, rfl, hk, rfl⟩ := hrel
    by_cases hlt : k < n
    · obtain ⟨g, cp, hga, _, _, _, _, hgc⟩ := row_some HR1.out.1 (by omega)
      obtain ⟨g2, cp2, hga2, _, _, _, _, hgc2⟩ := row_some HR1.out.2 (by omega)
      have e1 : w1.cell? ⟨g, k, none⟩ = some (.int .i64 (wsum (pcB S bl k) : Nat)) := by rw [hgc k (by omega)]; exact weakV_at S bl n k hlt
      have e2 : w1.cell? ⟨g2, k, none⟩ = some (.string (markOf B (pcB S bl k))) := by rw [hgc2 k (by omega)]; exact strongV_at B S bl n k hlt
      injection hga with hga _ _
      injection hga2 with hga2 _ _
      subst hga hga2
      have hx := wsum_lt (pcB S bl k)
      have hm := markOf_size B (pcB S bl k)
      generalize wsum (pcB S bl k) = x at e1 hx
      generalize markOf B (pcB S bl k) = mk at e2 hm
      have hx1 : ¬ ((x : Int) < 0) := by omega
      have hx2 : ¬ ((4294967295 : Int) < (x : Int)) := by omega
      have hm2 : ((mk.size : Int) != 32) = false := by rw [hm]; rfl
      clear hgc hgc2 hm
      go_wp2_with fail
      go_roundw
      case rel => exact ⟨k + 1, by go_num, by omega, trivial⟩
      case measure => simp [intOf]; omega
    · go_wp2_with fail
      go_ret
      exact ⟨rfl, HB1.out⟩
end Go.Proofs.YtaemlplcjjbamaaGreatDoor
