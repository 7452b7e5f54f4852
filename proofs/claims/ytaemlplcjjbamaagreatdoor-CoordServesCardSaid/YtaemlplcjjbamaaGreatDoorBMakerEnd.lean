/- (*sign.Table).Tail, weakly: true only where the text is the last, short block by its mark. Condition: the sizes. (*delta.maker).end: what is left of the text, of which the last may be the last block. Condition: the sizes. -/
import Derived.Test.YtaemlplcjjbamaaGreatDoorBTabSmall
import Derived.Test.YtaemlplcjjbamaaGreatDoorBHeld
import Derived.Test.YtaemlplcjjbamaaGreatDoorBMakerCopy
import Derived.Test.YtaemlplcjjbamaaGreatDoorBNewTab
namespace Go.Proofs.YtaemlplcjjbamaaGreatDoor
open Go Go.RowKit
set_option linter.unusedVariables false
def TailSays (n la : Nat) (sf : Nat → ByteArray) (k mb : Nat) (B : List ByteArray) (s : ByteArray) (w : World) (e : Ending) (w' : World) : Prop :=
  ∃ (r : Bool), e = .returned (.bool r) ∧ Touch (fun j => j = mb) w w' ∧ ((r = false ∧ BookIs w' k mb B) ∨ (0 < n ∧ s.size = n ∧ BookIs w' k mb (seen B s) ∧ r = decide (markOf (seen B s) s = sf la)))
set_option maxRecDepth 100000 in
set_option maxHeartbeats 4000000 in
theorem tail_any (q size bl n la gw gs nS k mb : Nat) (p : Option Addr) (cW : Nat) (wf : Nat → Nat) (sf : Nat → ByteArray) (B : List ByteArray) (s : ByteArray) (w : World) (hS : TabSig q bl gs nS sf w) (c1 : w.cell? ⟨q, 1, none⟩ = some (.int .i64 (size : Int))) (c2 : w.cell? ⟨q, 2, none⟩ = some (.slice p nS cW)) (hp : 0 < nS → p = some ⟨gw, 0, none⟩) (hw : NumRow w gw nS wf) (hn : n = size % bl) (hpos : 0 < n → nS = la + 1) (hsz : size ≤ 1048576) (hbl : 1 ≤ bl) (hbl2 : bl ≤ 1048576) (hK : BookIs w k mb B) (hnS : nS ≤ 1048576) (hs : s.size ≤ 1048576) (hB : B.length ≤ 1000000000) (hne : k ≠ mb) (hq : q ≠ mb) (hgs : gs ≠ mb) (hgw : gw ≠ mb) :
    Calls Tryz.prog 199 #[.pointer (some ⟨q, 0, none⟩), .pointer (some ⟨k, 0, none⟩), .string s] w (TailSays n la sf k mb B s w) := by
  have hrem : (size : Int).tmod (bl : Int) = (n : Int) := by rw [hn]; rfl
  have c0 := hS.block
  obtain ⟨pS, cS, c3, hpS⟩ := hS.strong
  have HpS := Lib.hid hpS
  clear hpS
  have Hmarks := Lib.hid hS.marks
  have HKw := Lib.hid hK
  have hSl := Lib.hid hS.lt
  have hb0 : ((bl : Int) == 0) = false := by rw [beq_eq_false_iff_ne]; omega
  have hnb : n ≤ 1048576 := by rw [hn]; exact Nat.le_trans (Nat.mod_le _ _) hsz
  have Hn := Lib.hid hn
  have Hw := Lib.hid hw
  have HP := Lib.hid hp
  have Hpos := Lib.hid hpos
  have Hs := Lib.hid hs
  have HBl := Lib.hid hB
  have Hne := Lib.hid hne
  clear hn hw hp hpos hK hS hB hne
  by_cases hn0 : 0 < n
  · have hnl := Hpos.out hn0
    have hp1 := HP.out (by omega)
    subst hp1
    have hp2 := HpS.out (by omega)
    subst hp2
    have hla : (nS : Int) - 1 = (la : Int) := by omega
    have hlt : la < nS := by omega
    have d1 := Hw.out la hlt
    have d2 := Hmarks.out la hlt
    have hlq := Lib.hid (show q < w.heap.size ∧ ¬ q = mb ∧ gw < w.heap.size ∧ ¬ gw = mb ∧ gs < w.heap.size ∧ ¬ gs = mb from ⟨hSl.out.1, hq, World.block_lt_of_cell? _ _ d1, hgw, hSl.out.2, hgs⟩)
    have HSm := Lib.hid (fun w0 => rollSum_any s w0 Hs.out)
    have HSq := Lib.hid (fun (w0 : World) j => (rollSum_any s (w0.drewN j) Hs.out).mono (fun e w' h => (⟨h.1, 0, h.2.symm⟩ : e = .returned (.int .i64 (wsum s : Nat)) ∧ ∃ i, w' = (w0.drewN j).drewN i)))
    have HMk := Lib.hid (fun w' (hT : Touch (fun _ => False) w w') => mark_any k mb B s w' (HKw.out.touch hT (fun h => h) (fun h => h)) (by have := Hs.out; unfold maxLen; omega) HBl.out Hne.out)
    generalize wf la = y at d1
    generalize hz : sf la = z at d2
    have Hz := Lib.hid hz
    have hbd : wsum s < 4294967296 := wsum_lt s
    generalize wsum s = v at HSm HSq hbd
    clear hnl hz
    obtain ⟨z0, hz0⟩ : ∃ z0, z0 = s.size := ⟨_, rfl⟩
    go_enter Tryz.func199, Tryz.ntmps199
    go_upto_region 3 with fail
    go_quiet (fail)
    go_upto_region 5 with fail
    obtain ⟨ws, hws⟩ : ∃ ws, ws = w.drewN nq := ⟨_, rfl⟩
    have hTw := Lib.hid (show Touch (fun j => j = mb) w ws by rw [hws]; exact (Touch.refl _ _).drewN _)
    have hTf := Lib.hid (show Touch (fun _ => False) w ws by rw [hws]; exact (Touch.refl _ _).drewN _)
    have e2 : ws.cell? ⟨q, 2, none⟩ = some (.slice (some ⟨gw, 0, none⟩) nS cW) := by rw [hws]; exact c2
    have e3 : ws.cell? ⟨q, 3, none⟩ = some (.slice (some ⟨gs, 0, none⟩) nS cS) := by rw [hws]; exact c3
    have e4 : ws.cell? ⟨gw, la, none⟩ = some (.int .i64 (y : Int)) := by rw [hws]; exact d1
    have e5 : ws.cell? ⟨gs, la, none⟩ = some (.string z) := by rw [hws]; exact d2
    have hKs := Lib.hid (HKw.out.touch hTf.out (fun h => h) (fun h => h))
    rw [← hws]
    clear hws
    by_cases hsn : s.size = n
    · have hs1 : ((s.size : Int) == (n : Int)) = true := by rw [beq_iff_eq]; omega
      have Hsn := Lib.hid hsn
      clear hsn hz0
      by_cases hvy : v = y
      · have hv1 : ((v : Int) == (y : Int)) = true := by rw [beq_iff_eq]; omega
        have HMk2 := Lib.hid (fun w' (hT : Touch (fun _ => False) ws w') => mark_any k mb B s w' (hKs.out.touch hT (fun h => h) (fun h => h)) (by have := Hs.out; unfold maxLen; omega) HBl.out Hne.out)
        have HG2 := Lib.hid (fun w' (hT : Touch (fun j => j = mb) ws w') => (show w'.cell? ⟨q, 2, none⟩ = some (.slice (some ⟨gw, 0, none⟩) nS cW) ∧ w'.cell? ⟨q, 3, none⟩ = some (.slice (some ⟨gs, 0, none⟩) nS cS) ∧ w'.cell? ⟨gw, la, none⟩ = some (.int .i64 (y : Int)) ∧ w'.cell? ⟨gs, la, none⟩ = some (.string z) from
          ⟨(hT.cell (p := ⟨q, 2, none⟩) (Nat.lt_of_lt_of_le hlq.out.1 hTf.out.size) hlq.out.2.1).trans e2, (hT.cell (p := ⟨q, 3, none⟩) (Nat.lt_of_lt_of_le hlq.out.1 hTf.out.size) hlq.out.2.1).trans e3, (hT.cell (p := ⟨gw, la, none⟩) (Nat.lt_of_lt_of_le hlq.out.2.2.1 hTf.out.size) hlq.out.2.2.2.1).trans e4, (hT.cell (p := ⟨gs, la, none⟩) (Nat.lt_of_lt_of_le hlq.out.2.2.2.2.1 hTf.out.size) hlq.out.2.2.2.2.2).trans e5⟩))
        clear hvy
        go_region_held3 (fun w' => w'.cell? ⟨q, 2, none⟩ = some (.slice (some ⟨gw, 0, none⟩) nS cW) ∧ w'.cell? ⟨q, 3, none⟩ = some (.slice (some ⟨gs, 0, none⟩) nS cS) ∧ w'.cell? ⟨gw, la, none⟩ = some (.int .i64 (y : Int)) ∧ w'.cell? ⟨gs, la, none⟩ = some (.string z))
          (first | with_reducible exact hG3 | go_keep)
          (first
            | (go_at_call 173; refine (HSm.out _).mono ?_; rintro e w4 ⟨rfl, rfl⟩)
            | (go_at_call 11; refine (HMk2.out _ (by first | exact (Touch.refl _ _).drew | exact ((Touch.refl _ _).drewN _) | exact (Touch.refl _ _))).mono ?_; rintro e w5 ⟨rfl, hK5, hT5⟩; have HT5 := Lib.hid (show Touch (fun j => j = mb) ws w5 from ((Touch.refl _ _).drew).trans hT5); have hG3 := HG2.out _ HT5.out))
        all_goals
          go_wp2_with fail
          go_ret
          exact ⟨_, rfl, hTw.out.trans HT5.out, Or.inr ⟨hn0, Hsn.out, hK5, by rw [strEq_any, Hz.out]⟩⟩
      · have hv1 : ((v : Int) == (y : Int)) = false := by rw [beq_eq_false_iff_ne]; omega
        clear hvy
        go_quiet ((go_at_call 173; exact quiet_plus (HSq.out _ _)))
        go_wp2_with fail
        go_ret
        exact ⟨false, rfl, hTw.out.trans ((Touch.refl _ _).drewN _), Or.inl ⟨rfl, HKw.out.touch (T := fun _ => False) (hTf.out.trans ((Touch.refl _ _).drewN _)) (fun h => h) (fun h => h)⟩⟩
    · have hs1 : ((s.size : Int) == (n : Int)) = false := by rw [beq_eq_false_iff_ne]; omega
      clear hsn hz0
      go_quiet (fail)
      go_wp2_with fail
      go_ret
      exact ⟨false, rfl, hTw.out.trans ((Touch.refl _ _).drewN _), Or.inl ⟨rfl, HKw.out.touch (T := fun _ => False) (hTf.out.trans ((Touch.refl _ _).drewN _)) (fun h => h) (fun h => h)⟩⟩
  · have hn1 : n = 0 := by omega
    subst hn1
    go_enter Tryz.func199, Tryz.ntmps199
    go_upto_region 3 with fail
    go_quiet (fail)
    go_upto_region 5 with fail
    go_quiet (fail)
    go_wp2_with fail
    go_ret
    first
          | exact ⟨false, rfl, ((Touch.refl _ _).drewN _).drewN _, Or.inl ⟨rfl, HKw.out.touch (T := fun _ => False) (((Touch.refl _ _).drewN _).drewN _) (fun h => h) (fun h => h)⟩⟩
          | exact ⟨false, rfl, (Touch.refl _ _).drewN _, Or.inl ⟨rfl, HKw.out.touch (T := fun _ => False) ((Touch.refl _ _).drewN _) (fun h => h) (fun h => h)⟩⟩
end Go.Proofs.YtaemlplcjjbamaaGreatDoor
namespace Go.Proofs.YtaemlplcjjbamaaGreatDoor
open Go Go.RowKit
set_option linter.unusedVariables false
structure MkCtx (lo hi q kb mb : Nat) (B0 : List ByteArray) (O : List UInt8) (bl : Nat) : Prop where
  lt : mb < lo ∧ kb < lo ∧ kb ≠ mb ∧ hi ≤ q ∧ lo ≤ q
  size : 16 ≤ bl ∧ bl ≤ 1024
  len : O.length ≤ 524288
  book : B0.length ≤ 800000000
  mem : ∀ i, i < npc O.length bl → pcB O bl i ∈ B0
theorem Mk.chunks {O : List UInt8} {l cs : List Stp} {out t : List UInt8} (h : Mk O l out) (hc : Chunks t cs) : Mk O (l ++ cs) (out ++ t) := h.add hc
theorem Mk.bounds {O : List UInt8} {l : List Stp} {out : List UInt8} (h : Mk O l out) (hO : O.length ≤ 524288) : (∀ x ∈ l, 0 ≤ x.len ∧ x.len ≤ 1048576 ∧ 0 ≤ x.at_ ∧ x.at_ ≤ 1048576) ∧ l.length ≤ out.length := by
  refine ⟨fun x hx => ?_, by rw [← h.out]; exact outS_count l h.ok⟩
  rcases h.ok x hx with ⟨_, h2, h3, _⟩ | ⟨_, h2, h3, h4, h5, h6⟩ <;> omega
/-- a whole block's text -/
theorem pcB_whole (O : List UInt8) {bl i : Nat} (h : i < O.length / bl) : pcB O bl i = ba ((O.drop (i * bl)).take bl) ∧ i * bl + bl ≤ O.length := by
  have h1 : (i + 1) * bl ≤ O.length := by
    rw [← Nat.le_div_iff_mul_le (by rcases Nat.eq_zero_or_pos bl with h0 | h0; (subst h0; simp at h); exact h0)]
    omega
  rw [Nat.add_mul] at h1
  unfold pcB
  rw [Nat.add_mul, Nat.min_eq_left (by omega), ba_slice, show i * bl + 1 * bl - i * bl = bl by omega]
  exact ⟨rfl, by omega⟩
/-- the last block's text, where it is short -/
theorem pcB_last (O : List UInt8) {bl n : Nat} (hb : 0 < bl) (hn : n = O.length % bl) (h0 : 0 < n) : npc O.length bl = O.length / bl + 1 ∧ pcB O bl (O.length / bl) = ba ((O.drop (O.length - n)).take n) := by
  have h1 := Nat.div_add_mod O.length bl
  have h2 := Nat.mod_lt O.length hb
  rw [← hn] at h1 h2
  generalize O.length / bl = d at h1
  have h3 : npc O.length bl = d + 1 := by
    unfold npc
    rw [← h1, show bl * d + n + bl - 1 = (n + bl - 1) + bl * d by omega, Nat.add_mul_div_left _ _ hb, show (n + bl - 1) / bl = 1 from Nat.div_eq_of_lt_le (by omega) (by omega)]
    omega
  refine ⟨h3, ?_⟩
  unfold pcB
  have h4 : d * bl = O.length - n := by rw [Nat.mul_comm]; omega
  rw [Nat.add_mul, h4, Nat.min_eq_right (by omega), ba_slice, show O.length - (O.length - n) = n by omega]
theorem ba_inj {a b : List UInt8} (h : ba a = ba b) : a = b := by
  have := congrArg (fun s => s.data.toList) h
  simpa [ba] using this
/-- a text of the mark of a piece is that piece -/
theorem mark_piece {B0 Bk : List ByteArray} {p s : ByteArray} (hX : Ext B0 Bk) (hp : p ∈ B0) (hB : Bk.length ≤ 900000000) (h : markOf (seen Bk s) s = markOf B0 p) : s = p := by
  have h1 : p ∈ seen Bk s := ((Ext.seen Bk s) p (hX p hp).1).1
  have h2 : markOf (seen Bk s) p = markOf B0 p := ((hX.trans (Ext.seen Bk s))).mark hp
  exact mark_inj (seen_mem Bk s) h1 (by have := seen_length Bk s; omega) (h.trans h2.symm)
theorem MkAt.set_app {q : Nat} {l : List Stp} {t t' : List UInt8} {w w4 : World} {sv tv tv' : Value} (hB : Blk w q [sv, tv] 246) (hs : w.ownsRow q 221 3 sv l.length (stpsV l)) (htx : TxAt w q tv t)
    (hown : TxAt w4 q tv' t') (ht4 : Touch (fun j => tv.ownBlock = some j) w w4) :
    MkAt q l t' (w4.setCell ⟨q, 1, none⟩ tv') ∧ Below q w (w4.setCell ⟨q, 1, none⟩ tv') ∧ KeepM w (w4.setCell ⟨q, 1, none⟩ tv') := by
  have hr : tv.ownBlock ≠ some q := htx.ne hB (by decide)
  have hB4 : Blk w4 q [sv, tv] 246 := hB.touch ht4 hr
  have ht : Touch (fun j => tv.ownBlock = some j ∨ j = q) w (w4.setCell ⟨q, 1, none⟩ tv') := Touch.set (S := fun j => tv.ownBlock = some j ∨ j = q) (p := ⟨q, 1, none⟩) (ht4.mono (fun k _ h => Or.inl h)) (Or.inl (Or.inr rfl)) tv'
  have hS : ∀ k cs T, T ≠ 5 → T ≠ 221 → T ≠ 246 → Blk w k cs T → ¬ (tv.ownBlock = some k ∨ k = q) := fun k cs T h1 h2 h3 h4 e => e.elim (fun e => htx.ne h4 (Ne.symm h1) e) (fun e => hB.ne h4 (Ne.symm h3) e.symm)
  refine ⟨⟨sv, tv', hB4.set 1 tv', row_touch hs ht (fun g hg' e => e.elim (fun e => htx.ne_row hs (by decide) e hg') (fun e => row_ne hs hB (by decide) (by rw [hg', e]))), hown.touch (touchB (Touch.refl (fun k => k = q) w4) (o := 1) tv') (fun g hg' e => hown.ne hB4 (by decide) (by rw [hg', e]))⟩, ?_, KeepM.of_touch ht hS⟩
  exact ht.below (Nat.le_of_lt hB.lt) (fun k hk e => e.elim (fun e => Nat.not_lt.2 (htx.lt k e).1 hk) (fun e => by omega))
theorem src_ba (w : World) (R : List UInt8) : Src Tryz.prog 1 9 (.string (ba R)) R.length (u8s R) w := by
  have := Src.ofString (P := Tryz.prog) w (tx := 9) Tryz.underlying9 (ba R)
  rw [ba_size] at this
  exact this
theorem Touch.of_q {q mb : Nat} {w w' : World} (h : Below q w w') : Touch (fun j => j = mb ∨ q ≤ j) w w' := ⟨h.os, h.tape, h.output, h.size, fun k hk hn => h.block k (Nat.lt_of_not_le (fun e => hn (Or.inr e)))⟩
def EndSays (q kb mb : Nat) (Bk : List ByteArray) (O all : List UInt8) (w : World) (e : Ending) (w' : World) : Prop := e = .returned (.tuple #[]) ∧ ∃ l' B', MkAt q l' [] w' ∧ Mk O l' all ∧ BookIs w' kb mb B' ∧ Ext Bk B' ∧ B'.length ≤ Bk.length + 1 ∧ Touch (fun j => j = mb ∨ q ≤ j) w w'
set_option maxRecDepth 100000 in
set_option maxHeartbeats 4000000 in
theorem end_any (lo hi tq q kb mb : Nat) (B0 Bk : List ByteArray) (O R : List UInt8) (bl : Nat) (l : List Stp) (t out : List UInt8) (w : World) (hc : MkCtx lo hi q kb mb B0 O bl) (hM : MkAt q l t w) (hmk : Mk O l out) (hT : TabOk lo hi tq B0 O bl w) (hK : BookIs w kb mb Bk) (hX : Ext B0 Bk) (hBk : Bk.length ≤ 900000000) (hlen : out.length + t.length + R.length ≤ 524288) (al : List UInt8) (hal : al = out ++ t ++ R) :
    Calls Tryz.prog 182 #[.pointer (some ⟨q, 0, none⟩), .pointer (some ⟨kb, 0, none⟩), .pointer (some ⟨tq, 0, none⟩), .string (ba R)] w (EndSays q kb mb Bk O al w) := by
  have HA := Lib.hid hal
  clear hal
  have HC := Lib.hid hc
  have HM := Lib.hid hM
  have Hmk := Lib.hid hmk
  have HT := Lib.hid hT
  have HK := Lib.hid hK
  have HX := Lib.hid hX
  obtain ⟨hb1, hb2⟩ := hc.size
  have hOl := hc.len
  have hRz := ba_size R
  obtain ⟨gt, gb, gw, gs, tf, bf, cW, p, r1, r2, r3, r4, r5, r6, r7, r8⟩ := hT.ex
  have HR2 := Lib.hid r2
  have HR6 := Lib.hid r6
  have HR8 := Lib.hid r8
  have HSz := Lib.hid (fun w' (c : w'.cell? ⟨tq, 1, none⟩ = some (.int .i64 (O.length : Int))) => tabSize_any tq O.length w' c)
  have HBl := Lib.hid (tabBlock_any tq bl gs _ _ w r2)
  have R3 := Lib.hid r3
  have R4 := Lib.hid r4
  have R5 := Lib.hid r5
  clear hc hM hmk hT hK hX r1 r2 r3 r4 r5 r6 r7 r8
  obtain ⟨n, hn⟩ : ∃ n, n = O.length % bl := ⟨_, rfl⟩
  have hrem : (O.length : Int).tmod (bl : Int) = (n : Int) := by rw [hn]; rfl
  have hb0 : ((bl : Int) == 0) = false := by rw [beq_eq_false_iff_ne]; omega
  have hnl : n < bl := by rw [hn]; exact Nat.mod_lt _ (by omega)
  have hnO : n ≤ O.length := by rw [hn]; exact Nat.mod_le _ _
  have Hn := Lib.hid hn
  clear hn
  go_enter Tryz.func182, Tryz.ntmps182
  go_wp2_with fail
  refine (HSz.out _ R3.out).mono ?_
  rintro e w1 ⟨rfl, rfl⟩
  go_wp2_with fail
  refine HBl.out.mono ?_
  clear HBl
  rintro e w1 ⟨rfl, rfl⟩
  have HM0 := HM
  have HK0 := HK
  have HX0 := Lib.hid (Ext.refl Bk)
  have HL0 := Lib.hid (Nat.le_succ Bk.length)
  have HTo0 := Lib.hid (Touch.refl (fun j => j = mb ∨ q ≤ j) w1)
  by_cases hRn : n ≤ R.length
  · obtain ⟨d, hd⟩ : ∃ d, d = R.length - n := ⟨_, rfl⟩
    have hdi : (R.length : Int) - (n : Int) = (d : Int) := by omega
    have Hd := Lib.hid hd
    have hdl : d ≤ R.length := by omega
    clear hd
    go_wp2_with fail
    obtain ⟨X, hX⟩ : ∃ X, X = R.drop d := ⟨_, rfl⟩
    have hex : (ba R).extract d R.length = ba X := by rw [ba_slice, hX, List.take_of_length_le (by rw [List.length_drop]; omega)]
    have hXl : X.length = n := by rw [hX, List.length_drop]; have := Hd.out; omega
    have hRX : R = R.take d ++ X := by rw [hX]; exact (List.take_append_drop d R).symm
    have HRX := Lib.hid hRX
    rw [hex]
    have h8 := HR8.out
    have hlt := HC.out.lt
    have hTl := tail_any tq O.length bl n (npc O.length bl - 1) gw gs (npc O.length bl) kb mb p cW _ _ Bk (ba X) w1 HR2.out R3.out R4.out R5.out HR6.out Hn.out (fun h => by rw [(pcB_last O (by omega) Hn.out h).1, Nat.add_sub_cancel]) (by omega) (by omega) (by omega) HK.out (by have := npc_le (size := O.length) (bl := bl) (by omega); omega) (by rw [ba_size]; omega) (by omega) hlt.2.2.1 (by have := h8 tq (by simp); omega) (by have := h8 gs (by simp); omega) (by have := h8 gw (by simp); omega)
    refine hTl.mono ?_
    clear hTl h8 hX hRX hlt
    rintro e w2 ⟨r, rfl, hT2, hr⟩
    have HTo2 := Lib.hid (hT2.mono (S' := fun j => j = mb ∨ q ≤ j) (fun k _ h => Or.inl h))
    have HM2 := Lib.hid (HM.out.touch hT2 (fun k hk => by have := HC.out.lt; have := (HR8.out tq (by simp)); omega))
    have HT2 := Lib.hid (HT.out.touch hT2 (fun k hk => Or.inl (by have := HC.out.lt; omega)))
    obtain ⟨B2, hK2, hX2, hL2, hr2⟩ : ∃ B2, BookIs w2 kb mb B2 ∧ Ext Bk B2 ∧ B2.length ≤ Bk.length + 1 ∧ (r = true → 0 < n ∧ (O.drop (O.length - n)).take n = X) := by
      rcases hr with ⟨rfl, hk⟩ | ⟨h0, _, hk, rfl⟩
      · exact ⟨Bk, hk, Ext.refl _, Nat.le_succ _, fun h => by cases h⟩
      · refine ⟨_, hk, Ext.seen _ _, seen_length _ _, fun h => ⟨h0, ?_⟩⟩
        have h1 := of_decide_eq_true h
        obtain ⟨h2, h3⟩ := pcB_last O (show 0 < bl by omega) Hn.out h0
        rw [h2, Nat.add_sub_cancel] at h1
        have h4 := mark_piece HX.out (HC.out.mem _ (by omega)) hBk h1
        rw [h3] at h4
        exact (ba_inj h4).symm
    have HK2 := Lib.hid hK2
    have HX2 := Lib.hid hX2
    have HL2 := Lib.hid hL2
    clear hr hK2 hX2 hL2 hT2
    cases r with
    | false =>
      clear hr2
      obtain ⟨sv, tv, hb, hs, htx⟩ := HM2.out.ex
      have HB_ := Lib.hid hb
      have HS_ := Lib.hid hs
      have HTx := Lib.hid htx
      obtain ⟨ta, tc, rfl, _⟩ := htx.shape
      have k1 := hb.cell 1
      have hql := hb.lt
      simp only [List.getElem?_cons_zero, List.getElem?_cons_succ] at k1
      have hbd := Lib.hid (Hmk.out.bounds hOl)
      clear hb hs htx
      go_wp2_with (at_builtin; refine wpList_append_tx rfl _ _ 9 rfl q _ t R rfl HTx.out (src_ba _ R) (by omega) (by omega) ?_)
      intro ad cap w4 h4 hg4 hd4
      have ht4 : Touch (fun j => (Value.slice ta t.length tc).ownBlock = some j) w2 w4 := touch_grown (Touch.refl _ _) hg4 (fun g hg => Or.inl hg)
      have hB4 := HB_.out.touch ht4 (HTx.out.ne HB_.out (by decide))
      have HR := Lib.hid (MkAt.set_app HB_.out HS_.out HTx.out h4 ht4)
      have k4 := hB4.cell 1
      have f4 := hB4.free 1
      simp only [List.getElem?_cons_zero, List.getElem?_cons_succ] at k4
      clear h4 hg4 hd4 ht4 hB4 k1
      go_wp2_with fail
      generalize w4.setCell ⟨q, 1, none⟩ (.slice ad (t.length + R.length) cap) = w5 at HR ⊢
      refine (flush_any q l (t ++ R) w5 HR.out.1 (by have := hbd.out.2; omega) (by rw [List.length_append]; omega)).mono ?_
      rintro e w6 ⟨rfl, cs, hC, hN, hM6, hB6, hK6⟩
      have H6 := Lib.hid (show EndSays q kb mb Bk O al w1 (.returned (.tuple #[])) w6 from by
        refine ⟨rfl, l ++ cs, B2, hM6, ?_, ?_, ?_, ?_, ?_⟩
        · rw [HA.out, List.append_assoc]
          exact Hmk.out.chunks hC
        · exact HK2.out.touch (Touch.of_q (mb := q) (HR.out.2.1.trans hB6)) (fun e => by have := HC.out.lt; omega) (fun e => by have := HC.out.lt; omega)
        · exact HX2.out
        · have := HL2.out; omega
        · exact HTo2.out.trans (Touch.of_q (HR.out.2.1.trans hB6)))
      clear hC hN hM6 hB6 hK6
      go_wp2_with fail
      go_end0
      exact H6.out
    | true =>
      obtain ⟨h0, hXe⟩ := hr2 rfl
      have HXe := Lib.hid hXe
      clear hr2 hXe
      obtain ⟨Y, hY⟩ : ∃ Y, Y = R.take d := ⟨_, rfl⟩
      have hYl : Y.length = d := by rw [hY, List.length_take]; omega
      have hex0 : (ba R).extract 0 d = ba Y := by rw [ba_slice, hY]; rfl
      have HSrc := Lib.hid (fun w' => show Src Tryz.prog 1 9 (.string ((ba R).extract 0 d)) Y.length (u8s Y) w' from hex0 ▸ src_ba w' Y)
      have HYX := Lib.hid (show R = Y ++ X by rw [hY]; exact HRX.out)
      obtain ⟨a, ha⟩ : ∃ a, a = O.length - n := ⟨_, rfl⟩
      have hai : (O.length : Int) - (n : Int) = (a : Int) := by omega
      have HAn := Lib.hid ha
      have hal2 : a + n ≤ O.length := by omega
      have R32 := Lib.hid (show w2.cell? ⟨tq, 1, none⟩ = some (.int .i64 (O.length : Int)) by
        obtain ⟨gt, gb, gw, gs, tf, bf, cW, p, _, _, r3, _⟩ := HT2.out.ex
        exact r3)
      clear hY ha hex0
      obtain ⟨sv, tv, hb, hs, htx⟩ := HM2.out.ex
      have HB_ := Lib.hid hb
      have HS_ := Lib.hid hs
      have HTx := Lib.hid htx
      obtain ⟨ta, tc, rfl, _⟩ := htx.shape
      have k1 := hb.cell 1
      have f1 := hb.free 1
      have hql := hb.lt
      simp only [List.getElem?_cons_zero, List.getElem?_cons_succ] at k1
      have hbd := Lib.hid (Hmk.out.bounds hOl)
      clear hb hs htx
      have hwd : IntKind.i64.wrap (d : Int) = (d : Int) := by rw [IntKind.wrap_i64]; omega
      go_upto_region 2 with fail
      go_region_law (first
        | (refine step_append_tx rfl _ _ 9 rfl q _ t Y rfl (HTx.out.below (Below.refl _ w2).drew) (HSrc.out _) (by omega) (by first | omega | (simp; omega)) ?_; intro ad cap w4 h4 hg4 hd4; have hc4 := hg4.cell_far ⟨q, 1, none⟩ (by simp; omega) (Ne.symm (HTx.out.ne HB_.out (by decide))); have hf4 := hg4.frozen_far ⟨q, 1, none⟩ (by simp; omega) (Ne.symm (HTx.out.ne HB_.out (by decide)))))
      all_goals
        have ht4 : Touch (fun j => (Value.slice ta t.length tc).ownBlock = some j) w2 w4 := touch_grown ((Touch.refl _ _).drew) hg4 (fun g hg => Or.inl hg)
        have HR := Lib.hid (MkAt.set_app HB_.out HS_.out HTx.out h4 ht4)
        clear h4 hg4 hd4 ht4 k1 f1 hc4 hf4
        rw [hYl] at HR
        generalize w4.setCell ⟨q, 1, none⟩ (.slice ad (t.length + d) cap) = w5 at HR ⊢
        have R35 := Lib.hid (show w5.cell? ⟨tq, 1, none⟩ = some (.int .i64 (O.length : Int)) by
          rw [← R32.out]
          have h9 := HR8.out tq (by simp)
          have h10 := HC.out.lt
          exact World.cell?_of_block (w := w2) (HR.out.2.1.block tq (by omega)))
        go_wp2_with fail
        refine (HSz.out _ R35.out).mono ?_
        rintro e w6 ⟨rfl, rfl⟩
        go_wp2_with fail
        refine (copy_any q l (t ++ Y) a n w6 HR.out.1 (by have := hbd.out.2; omega) (by rw [List.length_append]; omega) (by omega) (by omega) hbd.out.1).mono ?_
        rintro e w7 ⟨rfl, cs, hC, hN, hM6, hB6, hK6⟩
        have H6 := Lib.hid (show EndSays q kb mb Bk O al w1 (.returned (.tuple #[])) w7 from by
          refine ⟨rfl, _, B2, hM6, ?_, ?_, ?_, ?_, ?_⟩
          · have h11 := (Hmk.out.chunks hC).copy h0 hal2 (by omega)
            rw [HAn.out, HXe.out] at h11
            rw [HA.out, HYX.out, HAn.out]
            have e1 : out ++ t ++ (Y ++ X) = out ++ (t ++ Y) ++ X := by simp
            rw [e1]
            exact h11
          · exact HK2.out.touch (Touch.of_q (mb := q) (HR.out.2.1.trans hB6)) (fun e => by have := HC.out.lt; omega) (fun e => by have := HC.out.lt; omega)
          · exact HX2.out
          · have := HL2.out; omega
          · exact HTo2.out.trans (Touch.of_q (HR.out.2.1.trans hB6)))
        clear hC hN hM6 hB6 hK6
        go_wp2_with fail
        refine bodyPost_ret (results_none rfl _ _ _) rfl ?_
        exact H6.out
  · skip
    obtain ⟨sv, tv, hb, hs, htx⟩ := HM0.out.ex
    have HB_ := Lib.hid hb
    have HS_ := Lib.hid hs
    have HTx := Lib.hid htx
    obtain ⟨ta, tc, rfl, _⟩ := htx.shape
    have k1 := hb.cell 1
    have hql := hb.lt
    simp only [List.getElem?_cons_zero, List.getElem?_cons_succ] at k1
    have hbd := Lib.hid (Hmk.out.bounds hOl)
    clear hb hs htx
    go_wp2_with (at_builtin; refine wpList_append_tx rfl _ _ 9 rfl q _ t R rfl HTx.out (src_ba _ R) (by omega) (by omega) ?_)
    intro ad cap w4 h4 hg4 hd4
    have ht4 : Touch (fun j => (Value.slice ta t.length tc).ownBlock = some j) w1 w4 := touch_grown (Touch.refl _ _) hg4 (fun g hg => Or.inl hg)
    have hB4 := HB_.out.touch ht4 (HTx.out.ne HB_.out (by decide))
    have HR := Lib.hid (MkAt.set_app HB_.out HS_.out HTx.out h4 ht4)
    have k4 := hB4.cell 1
    have f4 := hB4.free 1
    simp only [List.getElem?_cons_zero, List.getElem?_cons_succ] at k4
    clear h4 hg4 hd4 ht4 hB4 k1
    go_wp2_with fail
    generalize w4.setCell ⟨q, 1, none⟩ (.slice ad (t.length + R.length) cap) = w5 at HR ⊢
    refine (flush_any q l (t ++ R) w5 HR.out.1 (by have := hbd.out.2; omega) (by rw [List.length_append]; omega)).mono ?_
    rintro e w6 ⟨rfl, cs, hC, hN, hM6, hB6, hK6⟩
    have H6 := Lib.hid (show EndSays q kb mb Bk O al w1 (.returned (.tuple #[])) w6 from by
      refine ⟨rfl, l ++ cs, Bk, hM6, ?_, ?_, ?_, ?_, ?_⟩
      · rw [HA.out, List.append_assoc]
        exact Hmk.out.chunks hC
      · exact HK0.out.touch (Touch.of_q (mb := q) (HR.out.2.1.trans hB6)) (fun e => by have := HC.out.lt; omega) (fun e => by have := HC.out.lt; omega)
      · exact HX0.out
      · have := HL0.out; omega
      · exact HTo0.out.trans (Touch.of_q (HR.out.2.1.trans hB6)))
    clear hC hN hM6 hB6 hK6
    go_wp2_with fail
    go_end0
    exact H6.out
end Go.Proofs.YtaemlplcjjbamaaGreatDoor
