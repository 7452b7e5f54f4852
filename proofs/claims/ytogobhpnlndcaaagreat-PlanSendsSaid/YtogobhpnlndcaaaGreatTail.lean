/- (*sign.Table).Tail, weakly: true only where the text is the last, short block by its mark. Condition: the sizes. -/
import Derived.Test.YtogobhpnlndcaaaGreatTabSmall
import Derived.Test.YtogobhpnlndcaaaGreatHeld
namespace Go.Proofs.YtogobhpnlndcaaaGreat
open Go Go.RowKit
set_option linter.unusedVariables false

def TailSays (n la : Nat) (sf : Nat → ByteArray) (k mb : Nat) (B : List ByteArray) (s : ByteArray) (w : World) (e : Ending) (w' : World) : Prop :=
  ∃ (r : Bool), e = .returned (.bool r) ∧ Touch (fun j => j = mb) w w' ∧ ((r = false ∧ BookIs w' k mb B) ∨ (0 < n ∧ s.size = n ∧ BookIs w' k mb (seen B s) ∧ r = decide (markOf (seen B s) s = sf la)))
set_option maxRecDepth 100000 in
set_option maxHeartbeats 4000000 in
theorem tail_any (q size bl n la gw gs nS k mb : Nat) (p : Option Addr) (cW : Nat) (wf : Nat → Nat) (sf : Nat → ByteArray) (B : List ByteArray) (s : ByteArray) (w : World) (hS : TabSig q bl gs nS sf w) (c1 : w.cell? ⟨q, 1, none⟩ = some (.int .i64 (size : Int))) (c2 : w.cell? ⟨q, 2, none⟩ = some (.slice p nS cW)) (hp : 0 < nS → p = some ⟨gw, 0, none⟩) (hw : NumRow w gw nS wf) (hn : n = size % bl) (hpos : 0 < n → nS = la + 1) (hsz : size ≤ 1048576) (hbl : 1 ≤ bl) (hbl2 : bl ≤ 1048576) (hK : BookIs w k mb B) (hnS : nS ≤ 1048576) (hs : s.size ≤ 1048576) (hB : B.length ≤ 1000000000) (hne : k ≠ mb) (hq : q ≠ mb) (hgs : gs ≠ mb) (hgw : gw ≠ mb) :
    Calls Tryz.prog 83 #[.pointer (some ⟨q, 0, none⟩), .pointer (some ⟨k, 0, none⟩), .string s] w (TailSays n la sf k mb B s w) := by
  have hrem : (size : Int).tmod (bl : Int) = (n : Int) := by rw [hn]; rfl
  have c0 := hS.block
  obtain ⟨pS, cS, c3, hpS⟩ := hS.strong
  have HpS := Lib.hid hpS
  clear hpS
  have Hmarks := Lib.hid hS.marks
  have HKw := Lib.hid hK
  have hSl := Lib.hid hS.lt
  have hb0 : ((bl : Int) == 0) = false := by rw [beq_eq_false_iff_ne]; omega
  have hnb : n ≤ 1048576 := by rw [hn]; exact Nat.le_trans (Nat.mod_le _ _) hsz
  have Hn := Lib.hid hn
  have Hw := Lib.hid hw
  have HP := Lib.hid hp
  have Hpos := Lib.hid hpos
  have Hs := Lib.hid hs
  have HBl := Lib.hid hB
  have Hne := Lib.hid hne
  clear hn hw hp hpos hK hS hB hne
  by_cases hn0 : 0 < n
  · have hnl := Hpos.out hn0
    have hp1 := HP.out (by omega)
    subst hp1
    have hp2 := HpS.out (by omega)
    subst hp2
    have hla : (nS : Int) - 1 = (la : Int) := by omega
    have hlt : la < nS := by omega
    have d1 := Hw.out la hlt
    have d2 := Hmarks.out la hlt
    have hlq := Lib.hid (show q < w.heap.size ∧ ¬ q = mb ∧ gw < w.heap.size ∧ ¬ gw = mb ∧ gs < w.heap.size ∧ ¬ gs = mb from ⟨hSl.out.1, hq, World.block_lt_of_cell? _ _ d1, hgw, hSl.out.2, hgs⟩)
    have HSm := Lib.hid (fun w0 => rollSum_any s w0 Hs.out)
    have HSq := Lib.hid (fun (w0 : World) j => (rollSum_any s (w0.drewN j) Hs.out).mono (fun e w' h => (⟨h.1, 0, h.2.symm⟩ : e = .returned (.int .i64 (wsum s : Nat)) ∧ ∃ i, w' = (w0.drewN j).drewN i)))
    have HMk := Lib.hid (fun w' (hT : Touch (fun _ => False) w w') => mark_any k mb B s w' (HKw.out.touch hT (fun h => h) (fun h => h)) (by have := Hs.out; unfold maxLen; omega) HBl.out Hne.out)
    generalize wf la = y at d1
    generalize hz : sf la = z at d2
    have Hz := Lib.hid hz
    have hbd : wsum s < 4294967296 := wsum_lt s
    generalize wsum s = v at HSm HSq hbd
    clear hnl hz
    obtain ⟨z0, hz0⟩ : ∃ z0, z0 = s.size := ⟨_, rfl⟩
    go_enter Tryz.func83, Tryz.ntmps83
    go_upto_region 3 with fail
    go_quiet (fail)
    go_upto_region 5 with fail
    obtain ⟨ws, hws⟩ : ∃ ws, ws = w.drewN nq := ⟨_, rfl⟩
    have hTw := Lib.hid (show Touch (fun j => j = mb) w ws by rw [hws]; exact (Touch.refl _ _).drewN _)
    have hTf := Lib.hid (show Touch (fun _ => False) w ws by rw [hws]; exact (Touch.refl _ _).drewN _)
    have e2 : ws.cell? ⟨q, 2, none⟩ = some (.slice (some ⟨gw, 0, none⟩) nS cW) := by rw [hws]; exact c2
    have e3 : ws.cell? ⟨q, 3, none⟩ = some (.slice (some ⟨gs, 0, none⟩) nS cS) := by rw [hws]; exact c3
    have e4 : ws.cell? ⟨gw, la, none⟩ = some (.int .i64 (y : Int)) := by rw [hws]; exact d1
    have e5 : ws.cell? ⟨gs, la, none⟩ = some (.string z) := by rw [hws]; exact d2
    have hKs := Lib.hid (HKw.out.touch hTf.out (fun h => h) (fun h => h))
    rw [← hws]
    clear hws
    by_cases hsn : s.size = n
    · have hs1 : ((s.size : Int) == (n : Int)) = true := by rw [beq_iff_eq]; omega
      have Hsn := Lib.hid hsn
      clear hsn hz0
      by_cases hvy : v = y
      · have hv1 : ((v : Int) == (y : Int)) = true := by rw [beq_iff_eq]; omega
        have HMk2 := Lib.hid (fun w' (hT : Touch (fun _ => False) ws w') => mark_any k mb B s w' (hKs.out.touch hT (fun h => h) (fun h => h)) (by have := Hs.out; unfold maxLen; omega) HBl.out Hne.out)
        have HG2 := Lib.hid (fun w' (hT : Touch (fun j => j = mb) ws w') => (show w'.cell? ⟨q, 2, none⟩ = some (.slice (some ⟨gw, 0, none⟩) nS cW) ∧ w'.cell? ⟨q, 3, none⟩ = some (.slice (some ⟨gs, 0, none⟩) nS cS) ∧ w'.cell? ⟨gw, la, none⟩ = some (.int .i64 (y : Int)) ∧ w'.cell? ⟨gs, la, none⟩ = some (.string z) from
          ⟨(hT.cell (p := ⟨q, 2, none⟩) (Nat.lt_of_lt_of_le hlq.out.1 hTf.out.size) hlq.out.2.1).trans e2, (hT.cell (p := ⟨q, 3, none⟩) (Nat.lt_of_lt_of_le hlq.out.1 hTf.out.size) hlq.out.2.1).trans e3, (hT.cell (p := ⟨gw, la, none⟩) (Nat.lt_of_lt_of_le hlq.out.2.2.1 hTf.out.size) hlq.out.2.2.2.1).trans e4, (hT.cell (p := ⟨gs, la, none⟩) (Nat.lt_of_lt_of_le hlq.out.2.2.2.2.1 hTf.out.size) hlq.out.2.2.2.2.2).trans e5⟩))
        clear hvy
        go_region_held3 (fun w' => w'.cell? ⟨q, 2, none⟩ = some (.slice (some ⟨gw, 0, none⟩) nS cW) ∧ w'.cell? ⟨q, 3, none⟩ = some (.slice (some ⟨gs, 0, none⟩) nS cS) ∧ w'.cell? ⟨gw, la, none⟩ = some (.int .i64 (y : Int)) ∧ w'.cell? ⟨gs, la, none⟩ = some (.string z))
          (first | with_reducible exact hG3 | go_keep)
          (first
            | (go_at_call 58; refine (HSm.out _).mono ?_; rintro e w4 ⟨rfl, rfl⟩)
            | (go_at_call 30; refine (HMk2.out _ (by first | exact (Touch.refl _ _).drew | exact ((Touch.refl _ _).drewN _) | exact (Touch.refl _ _))).mono ?_; rintro e w5 ⟨rfl, hK5, hT5⟩; have HT5 := Lib.hid (show Touch (fun j => j = mb) ws w5 from ((Touch.refl _ _).drew).trans hT5); have hG3 := HG2.out _ HT5.out))
        all_goals
          go_wp2_with fail
          go_ret
          exact ⟨_, rfl, hTw.out.trans HT5.out, Or.inr ⟨hn0, Hsn.out, hK5, by rw [strEq_any, Hz.out]⟩⟩
      · have hv1 : ((v : Int) == (y : Int)) = false := by rw [beq_eq_false_iff_ne]; omega
        clear hvy
        go_quiet ((go_at_call 58; exact quiet_plus (HSq.out _ _)))
        go_wp2_with fail
        go_ret
        exact ⟨false, rfl, hTw.out.trans ((Touch.refl _ _).drewN _), Or.inl ⟨rfl, HKw.out.touch (T := fun _ => False) (hTf.out.trans ((Touch.refl _ _).drewN _)) (fun h => h) (fun h => h)⟩⟩
    · have hs1 : ((s.size : Int) == (n : Int)) = false := by rw [beq_eq_false_iff_ne]; omega
      clear hsn hz0
      go_quiet (fail)
      go_wp2_with fail
      go_ret
      exact ⟨false, rfl, hTw.out.trans ((Touch.refl _ _).drewN _), Or.inl ⟨rfl, HKw.out.touch (T := fun _ => False) (hTf.out.trans ((Touch.refl _ _).drewN _)) (fun h => h) (fun h => h)⟩⟩
  · have hn1 : n = 0 := by omega
    subst hn1
    go_enter Tryz.func83, Tryz.ntmps83
    go_upto_region 3 with fail
    go_quiet (fail)
    go_upto_region 5 with fail
    go_quiet (fail)
    go_wp2_with fail
    go_ret
    first
          | exact ⟨false, rfl, ((Touch.refl _ _).drewN _).drewN _, Or.inl ⟨rfl, HKw.out.touch (T := fun _ => False) (((Touch.refl _ _).drewN _).drewN _) (fun h => h) (fun h => h)⟩⟩
          | exact ⟨false, rfl, (Touch.refl _ _).drewN _, Or.inl ⟨rfl, HKw.out.touch (T := fun _ => False) ((Touch.refl _ _).drewN _) (fun h => h) (fun h => h)⟩⟩
end Go.Proofs.YtogobhpnlndcaaaGreat
