/- The walks of a coordinator's reply at a list's call, and of asks when a majority has said yes to it. Condition: nothing is proposed. The walk of a coordinator's asks at a list's call to which a majority has said yes. Condition: all vaults have told how far they are; nothing is proposed. The walk of a coordinator's propose. Condition: fewer than 32 images are at hand, none of that generation. The walk of plan.Reached. Condition: fewer than 10^6 numbers. -/
import Derived.Test.YtaemlplcjjbamaaGreatDoorBCAsk1
import Derived.Test.YtaemlplcjjbamaaGreatDoorBAsk
import Derived.Deep.RegionHeld3
import Derived.Test.YtaemlplcjjbamaaGreatDoorBBasis
import Derived.Test.YtaemlplcjjbamaaGreatDoorBCAcc
import Derived.Test.YtaemlplcjjbamaaGreatDoorBSend
import Derived.Test.YtaemlplcjjbamaaGreatDoorBTick
import Derived.Test.YtaemlplcjjbamaaGreatDoorBShelf
import Derived.Lib.OwnBridge
namespace Go.Proofs.YtaemlplcjjbamaaGreatDoor
open Go Go.RowKit
set_option linter.unusedVariables false
theorem info_strR : (Tryz.prog.info? 9).map (fun i => (i.zero, i.size, i.bytes)) = some (some (.string ByteArray.empty), 1, 16) := by kernel_rfl
def marksV (l : List Ent) : List Value := l.map fun x => .string x.mark
theorem marksV_take {l : List Ent} {k : Nat} {x : Ent} (h : l[k]? = some x) : marksV (l.take (k + 1)) = marksV (l.take k) ++ [.string x.mark] := by
  unfold marksV
  rw [List.take_add_one, h]
  simp
def ReplySays (b : Nat) (c : CSt) (k : Nat) (w : World) (e : Ending) (w' : World) : Prop :=
  ∃ a ma mc, e = .returned (.tuple #[]) ∧ CoordAt w' b (c.ended (.pointer (some ⟨a, 0, none⟩))) ∧ Blk w' a (ansVals 0 c.top c.floor (.slice none 0 0) (.slice ma k mc)) 51 ∧ w.heap.size ≤ a ∧ Touch (fun k => k = b) w w'
set_option maxRecDepth 100000 in
set_option maxHeartbeats 8000000 in
theorem reply_list (b B kc : Nat) (c : CSt) (l : List Ent) (cs : List Value) (w : World) (h : CoordAt w b c) (hcl : c.call = .pointer (some ⟨kc, 0, none⟩)) (hq : Blk w kc (.int .i64 4 :: cs) 33) (hj : c.job = .pointer none)
    (hr : w.ownsRow B 102 3 c.chosen l.length (entsVals l)) (hl : l.length ≤ 1000000) (ht : 0 ≤ c.top ∧ c.top ≤ 1000000) :
    Calls Tryz.prog 63 #[.pointer (some ⟨b, 0, none⟩)] w (ReplySays b c l.length w) := by
  have hbl := h.1.lt
  have c6 : w.cell? ⟨b, 6, none⟩ = some (.int .i64 c.top) := h.hd 6 (by omega)
  have c5 : w.cell? ⟨b, 5, none⟩ = some (.int .i64 c.floor) := h.hd 5 (by omega)
  have H0 := Lib.hid h
  have HQ0 := Lib.hid hq
  have HR0 := Lib.hid hr
  have Hcl := Lib.hid hcl
  have Hj := Lib.hid hj
  have ht1 := ht.1
  have ht2 := ht.2
  obtain ⟨m, hm⟩ : ∃ m, m = l.length := ⟨_, rfl⟩
  rw [← hm] at HR0 hl ⊢
  have Hm := Lib.hid hm
  clear h hcl hq hj hr ht hm
  go_enter Tryz.func63, Tryz.ntmps63
  go_wp2_with fail
  go_cut [2] (fun v2 wc => ∃ q, v2 = .pointer (some ⟨q, 0, none⟩) ∧ w.heap.size ≤ q ∧ Hid (Blk wc q [.int .i64 0, .int .i64 c.top, .int .i64 c.floor, .slice none 0 0, .slice none 0 0] 51) ∧ Hid (Below w.heap.size w wc))
  case first =>
    go_region
    all_goals go_wp2_with fail
    all_goals go_meet
    all_goals exact ⟨w.heap.size, rfl, Nat.le_refl _, Lib.hid (Blk.new w [.int .i64 0, .int .i64 c.top, .int .i64 c.floor, .slice none 0 0, .slice none 0 0] _).drew, Lib.hid ((Below.refl _ _).alloc (Nat.le_refl _) _).drew⟩
  case rest =>
    obtain ⟨q, rfl, hq, HA1, HB1⟩ := hcut
    have C1 := H0.out.below HB1.out
    have d6 : wc.cell? ⟨b, 6, none⟩ = some (.int .i64 c.top) := C1.hd 6 (by omega)
    have d7 : wc.cell? ⟨b, 7, none⟩ = some c.chosen := C1.hd 7 (by omega)
    have d86 : wc.cell? ⟨b, 86, none⟩ = some (.pointer (some ⟨kc, 0, none⟩)) := by have := C1.ft 2; rw [← Hcl.out]; exact this
    have dk : wc.cell? ⟨kc, 0, none⟩ = some (.int .i64 4) := (HQ0.out.below HB1.out).cell 0
    have hr1 := HR0.out
    obtain ⟨ia, ic, hi⟩ := row_shape hr1
    rw [hi] at d7 hr1
    have HRx := Lib.hid hr1
    clear hi hr1 C1
    go_wp2_with fail
    go_loopw [45] (fun iv wr => ∃ (k : Nat) (mv : Value), iv = .int .i64 (k : Int) ∧ k ≤ m ∧ Hid (Blk wr q [.int .i64 0, .int .i64 c.top, .int .i64 c.floor, .slice none 0 0, mv] 51) ∧ Hid (wr.ownsRow w.heap.size 9 1 mv k (marksV (l.take k))) ∧ Hid (Touch (fun _ => False) w wr)) (fun iv _ => m - (intOf iv).toNat)
    case atStart => exact ⟨0, _, rfl, Nat.zero_le _, HA1, Lib.hid (World.ownsRow_nil _ _ _ _), Lib.hid (Touch.of_below HB1.out)⟩
    case round =>
      obtain ⟨k, mv, rfl, hk, HBt, HR, HT⟩ := hrel
      obtain ⟨ba_, bc, rfl⟩ := row_shape HR.out
      clear d6 d7 d86 dk c5 c6 HA1
      have hqr := HBt.out.lt
      have hszr := HT.out.size
      by_cases hlt : k < m
      · have HRr := Lib.hid (row_touch HRx.out HT.out (fun _ _ h => h))
        obtain ⟨gg, cap, hv0, hg2, hg3, hg4, hg6, hg5⟩ := row_some HRr.out (by omega)
        simp only [Value.slice.injEq] at hv0
        obtain ⟨rfl, _, rfl⟩ := hv0
        obtain ⟨x, hx⟩ : ∃ x, l[k]? = some x := ⟨_, List.getElem?_eq_getElem (by have := Hm.out; omega)⟩
        obtain ⟨v1, v2, v3⟩ := entsVals_at3 hx
        have e1 := (hg5 (k * 3) (by omega)).trans v1
        have e2 := (hg5 (k * 3 + 1) (by omega)).trans v2
        have e3 := (hg5 (k * 3 + 2) (by omega)).trans v3
        have HTk := Lib.hid (marksV_take hx)
        obtain ⟨xg, xb, xm⟩ := x
        simp only at e1 e2 e3
        have k1 := HBt.out.cell 4
        have k2 := HBt.out.free 4
        simp only [List.getElem?_cons_zero, List.getElem?_cons_succ] at k1
        have HVa := Lib.hid (HR.out.alloc (.cells #[.int .i64 xg, .int .i64 xb, .string xm] 102))
        have HBa := Lib.hid (HBt.out.alloc (.cells #[.int .i64 xg, .int .i64 xb, .string xm] 102))
        have HTa := Lib.hid (HT.out.alloc (.cells #[.int .i64 xg, .int .i64 xb, .string xm] 102))
        clear v1 v2 v3 hx hg5
        go_wp2_with (at_builtin; refine append_own1 rfl _ _ 49 rfl w.heap.size 9 1 16 Tryz.underlying49 _ info_strR rfl (by decide) _ _ _ rfl HVa.out (wr.heap.size + 1) (by simp) [.string xm] rfl rfl (by simp [Value.oneCell']) ?c1 ?c2 ?c3 ?_)
        case c1 => unfold maxLen; omega
        case c2 => omega
        case c3 => first | omega | (simp; omega)
        intro v' w6 hown6 hg6'
        have hrne : (Value.slice ba_ k bc).ownBlock ≠ some q := row_ne HR.out HBt.out (by decide)
        have hB6 := blk_grown (HBa.out.alloc (.cells #[.string xm] 9)) hg6' hrne
        have hT6 : Touch (fun _ => False) w w6 := touch_grown (HTa.out.alloc (.cells #[.string xm] 9)) hg6' (fun g hg => Or.inr (HR.out.lt g hg).1)
        have l1 := hB6.cell 4
        have l2 := hB6.free 4
        simp only [List.getElem?_cons_zero, List.getElem?_cons_succ] at l1
        have HB6 := Lib.hid hB6
        have HT6 := Lib.hid hT6
        obtain ⟨va, vc, rfl⟩ := row_shape hown6
        have HW6 := Lib.hid hown6
        clear hown6 hg6' hB6 hT6 k1 k2 e1 e2 e3 HVa HBa HTa HR HBt HT HRr
        go_wp2_with fail
        have hB7 := HB6.out.set 4 (.slice va (k + 1) vc)
        have hT7 := HT6.out.set (p := ⟨q, 4, none⟩) (Or.inr hq) (.slice va (k + 1) vc)
        have hR7 := row_touch HW6.out ((Touch.refl (fun k => k = q) w6).set (p := ⟨q, 4, none⟩) (Or.inl rfl) (.slice va (k + 1) vc)) (fun g hg e => row_ne HW6.out HB6.out (by decide) (by rw [hg, e]))
        go_roundw
        case rel => exact ⟨k + 1, _, by go_num, by omega, Lib.hid hB7, Lib.hid (by rw [HTk.out]; exact hR7), Lib.hid hT7⟩
        case measure => simp [intOf]; omega
      · obtain rfl : k = m := by omega
        have a0 := HBt.out.cell 0
        have a1 := HBt.out.cell 1
        have a2 := HBt.out.cell 2
        have a3 := HBt.out.cell 3
        have a4 := HBt.out.cell 4
        simp only [List.getElem?_cons_zero, List.getElem?_cons_succ] at a0 a1 a2 a3 a4
        have HEnd := Lib.hid (end_call b kc c 0 c.top c.floor none ba_ 0 0 k bc wr ⟨H0.out.1.touch HT.out (fun h => h), H0.out.2⟩ Hcl.out Hj.out)
        go_wp2_with fail
        refine HEnd.out.mono ?_
        rintro x w7 ⟨rfl, a, ha, hA, hC, hT⟩
        go_wp2_with fail
        go_end0
        exact ⟨a, ba_, bc, rfl, hC, hA, Nat.le_trans hszr ha, (HT.out.mono (fun _ _ h => h.elim)).trans hT⟩
end Go.Proofs.YtaemlplcjjbamaaGreatDoor
namespace Go.Proofs.YtaemlplcjjbamaaGreatDoor
open Go Go.RowKit
set_option linter.unusedVariables false
def Ask2Says (b : Nat) (c : CSt) (k : Nat) (w : World) (e : Ending) (w' : World) : Prop :=
  ∃ a ma mc, e = .returned (.slice none 0 0) ∧ CoordAt w' b (c.ended (.pointer (some ⟨a, 0, none⟩))) ∧ Blk w' a (ansVals 0 c.top c.floor (.slice none 0 0) (.slice ma k mc)) 51 ∧ w.heap.size ≤ a ∧ Touch (fun k => k = b) w w'
set_option maxRecDepth 100000 in
set_option maxHeartbeats 8000000 in
theorem asks_second (b B kc n cc t : Nat) (aa : Option Addr) (c : CSt) (ps : List Peer) (l : List Ent) (M : List Bool) (cs : List Value) (w : World) (h : CoordAt w b c) (hp : c.peers = peersVals ps) (hps : ps.length = 9) (hcn : c.n = (n : Int)) (hn1 : 1 ≤ n) (hn9 : n ≤ 9) (hall : ∀ v, (hv : v < n) → (ps[v]'(by omega)).told = true ∧ c.floor ≤ (ps[v]'(by omega)).floor)
    (hcl : c.call = .pointer (some ⟨kc, 0, none⟩)) (hq : Blk w kc (.int .i64 4 :: cs) 33) (ha : c.again = .slice aa 0 cc) (hj : c.job = .pointer none) (hy : c.yes = .pointer (some ⟨t, 0, none⟩)) (hta : TallyAt w t n M) (hM : wonT M n = true)
    (hr : w.ownsRow B 102 3 c.chosen l.length (entsVals l)) (hl : l.length ≤ 1000000) (ht : 0 ≤ c.top ∧ c.top ≤ 1000000) :
    Calls Tryz.prog 39 #[.pointer (some ⟨b, 0, none⟩)] w (Ask2Says b c l.length w) := by
  have hbl := h.1.lt
  have c86 : w.cell? ⟨b, 86, none⟩ = some (.pointer (some ⟨kc, 0, none⟩)) := by have := h.ft 2; rw [← hcl]; exact this
  have c11 : w.cell? ⟨b, 11, none⟩ = some (.slice aa 0 cc) := by rw [← ha]; exact h.hd 11 (by omega)
  have c84 : w.cell? ⟨b, 84, none⟩ = some (.pointer none) := by have := h.ft 0; rw [← hj]; exact this
  have k0 : w.cell? ⟨kc, 0, none⟩ = some (.int .i64 4) := hq.cell 0
  have HS := Lib.hid (settled_all b n c ps w h hp hps hcn hn1 hn9 hall)
  have H0 := Lib.hid h
  have Hy := Lib.hid hy
  have Hcl := Lib.hid hcl
  have Hj := Lib.hid hj
  have HQ0 := Lib.hid hq
  have HT0 := Lib.hid hta
  have HM := Lib.hid hM
  have HR0 := Lib.hid hr
  have Hl := Lib.hid hl
  have Ht := Lib.hid ht
  clear h hp hcn hall hcl hq ha hj hy hta hM hr hl ht
  go_enter Tryz.func39, Tryz.ntmps39
  go_wp2_with fail
  refine HS.out.mono ?_
  rintro e w1 ⟨rfl, hb1⟩
  have C1 := H0.out.below hb1
  have d89 : w1.cell? ⟨b, 89, none⟩ = some (.pointer (some ⟨t, 0, none⟩)) := by rw [← Hy.out]; exact C1.ft 5
  have HC1 := Lib.hid C1
  have HB1 := Lib.hid hb1
  have HW := won_any t n M w1 (tallyAt_below HT0.out hb1)
  rw [HM.out] at HW
  have HWn := Lib.hid HW
  clear C1 hb1 HS HW c86 c11 c84 k0
  go_wp2_with fail
  refine HWn.out.mono ?_
  rintro e w2 ⟨rfl, k, rfl⟩
  have HC2 := Lib.hid (HC1.out.drewN k)
  have HB2 := Lib.hid (below_drewN HB1.out k)
  clear HC1 HB1 HWn d89
  generalize w1.drewN k = w2 at HC2 HB2 ⊢
  have f86 : w2.cell? ⟨b, 86, none⟩ = some (.pointer (some ⟨kc, 0, none⟩)) := by rw [← Hcl.out]; exact HC2.out.ft 2
  have g0 : w2.cell? ⟨kc, 0, none⟩ = some (.int .i64 4) := (HQ0.out.below HB2.out).cell 0
  have HRp := Lib.hid (reply_list b B kc c l cs w2 HC2.out Hcl.out (HQ0.out.below HB2.out) Hj.out (ownsRow_below HR0.out HB2.out) Hl.out Ht.out)
  have hsz := HB2.out.size
  go_wp2_with fail
  refine HRp.out.mono ?_
  rintro e w3 ⟨a, ma, mc, rfl, hC, hA, ha, hT⟩
  go_wp2_with fail
  go_ret
  exact ⟨a, ma, mc, rfl, hC, hA, Nat.le_trans hsz ha, (Touch.of_below HB2.out).trans hT⟩
end Go.Proofs.YtaemlplcjjbamaaGreatDoor
namespace Go.Proofs.YtaemlplcjjbamaaGreatDoor
open Go Go.RowKit
set_option linter.unusedVariables false
attribute [local go_sem ↓] Go.wp_at_zero Go.wp_at_succ
def ProposeSays (iv : Value) (b B kb mb n : Nat) (c : CSt) (I : List (Int × List UInt8)) (Bk : List ByteArray) (g : Int) (T : List UInt8) (w : World) (e : Ending) (w' : World) : Prop :=
  ∃ v' j ta tf, e = .returned (.tuple #[]) ∧ CoordAt w' b { c with images := v', job := .pointer (some ⟨j, 0, none⟩) } ∧ w'.ownsRow B 151 2 v' (I.length + 1) (knV (I ++ [(g, T)])) ∧
    Blk w' j (jobVals g c.ballot (markOf (seen Bk (ba T)) (ba T)) (ba T) ta tf true false) 104 ∧ TallyAt w' ta n (List.replicate 9 false) ∧ TallyAt w' tf n (List.replicate 9 false) ∧ BookIs w' kb mb (seen Bk (ba T)) ∧ w.heap.size ≤ ta ∧ w.heap.size ≤ j ∧
    Touch (fun k => k = b ∨ k = mb ∨ iv.ownBlock = some k) w w'
set_option maxRecDepth 100000 in
set_option maxHeartbeats 4000000 in
theorem propose_any (b B kb mb n : Nat) (c : CSt) (I : List (Int × List UInt8)) (Bk : List ByteArray) (g : Int) (T : List UInt8) (w : World) (h : CoordAt w b c) (hbk : c.book = .pointer (some ⟨kb, 0, none⟩)) (hcn : c.n = (n : Int)) (hn9 : n ≤ 9) (hr : w.ownsRow B 151 2 c.images I.length (knV I)) (hB : B ≤ w.heap.size) (hl : I.length + 1 ≤ 32) (hn : NewGen I g)
    (hK : BookIs w kb mb Bk) (hBl : Bk.length ≤ 1000000000) (hT : T.length ≤ 1000000) :
    Calls Tryz.prog 55 #[.pointer (some ⟨b, 0, none⟩), .int .i64 g, .string (ba T), .bool true] w (ProposeSays c.images b B kb mb n c I Bk g T w) := by
  have hbl := h.1.lt
  have c2 : w.cell? ⟨b, 2, none⟩ = some (.pointer (some ⟨kb, 0, none⟩)) := by rw [← hbk]; exact h.hd 2 (by omega)
  have c3 : w.cell? ⟨b, 3, none⟩ = some (.int .i64 c.ballot) := h.hd 3 (by omega)
  have HKS := Lib.hid (fun w' (hb : Below w.heap.size w w') => (And.intro (show w'.cell? ⟨b, 2, none⟩ = some (.pointer (some ⟨kb, 0, none⟩)) by rw [← hbk]; exact (h.below hb).hd 2 (by omega)) (show w'.cell? ⟨b, 3, none⟩ = some (.int .i64 c.ballot) from (h.below hb).hd 3 (by omega))))
  have hk0 : w.drew.cell? ⟨b, 2, none⟩ = some (.pointer (some ⟨kb, 0, none⟩)) ∧ w.drew.cell? ⟨b, 3, none⟩ = some (.int .i64 c.ballot) := ⟨c2, c3⟩
  have hT2 : (ba T).size ≤ maxLen := by rw [ba_size]; unfold maxLen; omega
  have hmbb : mb ≠ b := (hK.ne_blk h.1 (by decide)).2
  have HMk := Lib.hid (fun w' (hb : Below w.heap.size w w') => mark_any kb mb Bk (ba T) w' (hK.below hb) hT2 hBl hK.self_ne)
  have HKM := Lib.hid (fun W w1 (hb : Below w.heap.size w W) (ht : Touch (fun k => k = mb) W w1) => (show w1.cell? ⟨b, 2, none⟩ = some (.pointer (some ⟨kb, 0, none⟩)) ∧ w1.cell? ⟨b, 3, none⟩ = some (.int .i64 c.ballot) from by
    have hC : CoordAt w1 b c := ⟨(h.below hb).1.touch ht (Ne.symm hmbb), h.2⟩
    exact ⟨by rw [← hbk]; exact hC.hd 2 (by omega), hC.hd 3 (by omega)⟩))
  have HKM2 := Lib.hid (fun W w1 (hb : Below w.heap.size w W) (ht : Touch (fun k => k = mb) W w1) (x y z : Value) => (show (((w1.setCell ⟨w.heap.size, 0, none⟩ x).setCell ⟨w.heap.size, 1, none⟩ y).setCell ⟨w.heap.size, 2, none⟩ z).cell? ⟨b, 2, none⟩ = some (.pointer (some ⟨kb, 0, none⟩)) ∧ (((w1.setCell ⟨w.heap.size, 0, none⟩ x).setCell ⟨w.heap.size, 1, none⟩ y).setCell ⟨w.heap.size, 2, none⟩ z).cell? ⟨b, 3, none⟩ = some (.int .i64 c.ballot) from by
    have hne : b ≠ w.heap.size := by omega
    have hC : CoordAt (((w1.setCell ⟨w.heap.size, 0, none⟩ x).setCell ⟨w.heap.size, 1, none⟩ y).setCell ⟨w.heap.size, 2, none⟩ z) b c := ⟨((((h.below hb).1.touch ht (Ne.symm hmbb)).set_other (a := ⟨w.heap.size, 0, none⟩) hne x).set_other (a := ⟨w.heap.size, 1, none⟩) hne y).set_other (a := ⟨w.heap.size, 2, none⟩) hne z, h.2⟩
    exact ⟨by rw [← hbk]; exact hC.hd 2 (by omega), hC.hd 3 (by omega)⟩))
  have hmbl := hK.map_lt
  have HZ := Lib.hid (fun w1 (ht : Touch (fun k => k = mb) (w.drew.alloc (.cells #[.int .i64 0, .int .i64 0, .string ⟨#[]⟩] 102)) w1) => (show w1.cell? ⟨w.heap.size, 0, none⟩ = some (.int .i64 0) ∧ w1.cell? ⟨w.heap.size, 1, none⟩ = some (.int .i64 0) ∧ w1.cell? ⟨w.heap.size, 2, none⟩ = some (.string ⟨#[]⟩) ∧ w1.frozen? ⟨w.heap.size, 0, none⟩ = false ∧ w1.frozen? ⟨w.heap.size, 1, none⟩ = false ∧ w1.frozen? ⟨w.heap.size, 2, none⟩ = false ∧ Hid (Blk w1 w.heap.size [.int .i64 0, .int .i64 0, .string ⟨#[]⟩] 102) from by
    have hb : Blk w1 w.heap.size [.int .i64 0, .int .i64 0, .string ⟨#[]⟩] 102 := (Blk.new w.drew [.int .i64 0, .int .i64 0, .string ⟨#[]⟩] 102).touch ht (fun (e : w.heap.size = mb) => by omega)
    exact ⟨hb.cell 0, hb.cell 1, hb.cell 2, hb.free 0, hb.free 1, hb.free 2, Lib.hid hb⟩))
  have H0 := Lib.hid h
  have HK0 := Lib.hid hK
  have HR0 := Lib.hid hr
  clear c2 c3 hK h hr
  go_enter Tryz.func55, Tryz.ntmps55
  go_wp2_with fail
  go_cut [8] (fun v8 wx => ∃ q, v8 = .pointer (some ⟨q, 0, none⟩) ∧ w.heap.size ≤ q ∧ Hid (CoordAt wx b c) ∧ Hid (Blk wx q [.int .i64 g, .int .i64 c.ballot, .string (markOf (seen Bk (ba T)) (ba T))] 102) ∧ Hid (BookIs wx kb mb (seen Bk (ba T))) ∧ Hid (wx.ownsRow B 151 2 c.images I.length (knV I)) ∧ Hid (Touch (fun k => k = mb) w wx))
  case first =>
    go_region_held3 (fun w' => w'.cell? ⟨b, 2, none⟩ = some (.pointer (some ⟨kb, 0, none⟩)) ∧ w'.cell? ⟨b, 3, none⟩ = some (.int .i64 c.ballot))
      (first | with_reducible exact hk0 | with_reducible exact hkm | with_reducible exact hks _ _ _ | exact HKS.out _ (((Below.refl _ w).drew).alloc (Nat.le_refl _) _) | go_keep)
      (first
      | (go_at_call 11; with_reducible refine (HMk.out w.drew (Below.refl _ w).drew).mono ?_; rintro e w1 ⟨rfl, hK1, hT1⟩; have hkm := HKM.out _ _ ((Below.refl _ w).drew) hT1)
      | (go_at_call 11; refine (HMk.out (w.drew.alloc (.cells #[.int .i64 0, .int .i64 0, .string ⟨#[]⟩] 102)) (((Below.refl _ w).drew).alloc (Nat.le_refl _) _)).mono ?_; rintro e w1 ⟨rfl, hK1, hT1⟩; have hkm := HKM.out _ _ (((Below.refl _ w).drew).alloc (Nat.le_refl _) _) hT1; obtain ⟨z0, z1, z2, g0, g1, g2, HZB⟩ := HZ.out _ hT1; have hks := HKM2.out _ _ (((Below.refl _ w).drew).alloc (Nat.le_refl _) _) hT1))
    all_goals go_wp2_with fail
    all_goals go_meet
    · have hsz := hT1.size
      have hs0 : w.drew.heap.size = w.heap.size := rfl
      have hnm := (HK0.out.ne_row HR0.out (by decide)).2
      have hbA : Below w1.heap.size w1 (w1.alloc (.cells #[.int .i64 g, .int .i64 c.ballot, .string (markOf (seen Bk (ba T)) (ba T))] 102)) := (Below.refl _ w1).alloc (Nat.le_refl _) _
      refine ⟨w1.heap.size, rfl, by omega, Lib.hid ?_, Lib.hid (Blk.new w1 [.int .i64 g, .int .i64 c.ballot, .string (markOf (seen Bk (ba T)) (ba T))] 102), Lib.hid (hK1.below hbA), Lib.hid ?_, Lib.hid ?_⟩
      · exact CoordAt.below ⟨H0.out.drew.1.touch hT1 (Ne.symm hmbb), H0.out.2⟩ hbA
      · exact ownsRow_below (row_touch (ownsRow_below HR0.out (Below.refl _ _).drew) hT1 (fun g hg e => hnm (by rw [hg, e]))) hbA
      · exact ((Touch.of_below (S := fun k => k = mb) (Below.refl _ w).drew).trans hT1).alloc _
    · have hsz := hT1.size
      have hs0 : (w.drew.alloc (.cells #[.int .i64 0, .int .i64 0, .string ⟨#[]⟩] 102)).heap.size = w.heap.size + 1 := by simp
      have hnm := (HK0.out.ne_row HR0.out (by decide)).2
      have hbD : Below w.heap.size w (w.drew.alloc (.cells #[.int .i64 0, .int .i64 0, .string ⟨#[]⟩] 102)) := ((Below.refl _ w).drew).alloc (Nat.le_refl _) _
      have C1 : CoordAt w1 b c := ⟨(H0.out.below hbD).1.touch hT1 (Ne.symm hmbb), H0.out.2⟩
      have R1 := row_touch (ownsRow_below HR0.out hbD) hT1 (fun g hg e => hnm (by rw [hg, e]))
      have hTS : Touch (fun k => k = w.heap.size) w1 (((w1.setCell ⟨w.heap.size, 0, none⟩ (.int .i64 g)).setCell ⟨w.heap.size, 1, none⟩ (.int .i64 c.ballot)).setCell ⟨w.heap.size, 2, none⟩ (.string (markOf (seen Bk (ba T)) (ba T)))) := touchOne_set (touchOne_set (touchOne_set (Touch.refl _ _) _) _) _
      have hkl := HK0.out.at_.lt
      have hTT := (Touch.of_below (S := fun k => k = mb) hbD).trans hT1
      refine ⟨w.heap.size, rfl, Nat.le_refl _, Lib.hid ?_, Lib.hid (((HZB.out.set 0 _).set 1 _).set 2 _), Lib.hid (hK1.touch hTS (fun (e : kb = w.heap.size) => by omega) (fun (e : mb = w.heap.size) => by omega)), Lib.hid ?_, Lib.hid ?_⟩
      · exact ⟨C1.1.touch hTS (fun (e : b = w.heap.size) => by omega), C1.2⟩
      · exact row_touch R1 hTS (fun g hg (e : g = w.heap.size) => by have := (row_lt HR0.out hg).2; omega)
      · exact ((hTT.set (p := ⟨w.heap.size, 0, none⟩) (Or.inr (Nat.le_refl _)) _).set (p := ⟨w.heap.size, 1, none⟩) (Or.inr (Nat.le_refl _)) _).set (p := ⟨w.heap.size, 2, none⟩) (Or.inr (Nat.le_refl _)) _
  case rest =>
    obtain ⟨q, rfl, hq, HC1, HE1, HK1, HR1, HT1⟩ := hcut
    clear HK0 HR0 H0 HMk HKM HKM2 HZ HKS hk0
    have hszw := HT1.out.size
    have hql := HE1.out.lt
    have hbq : b ≠ q := by omega
    have HKn := Lib.hid (know_new b B c I g T wc HC1.out HR1.out (Nat.le_trans hB hszw) hl hn)
    go_wp2_with fail
    refine HKn.out.mono ?_
    rintro e w2 ⟨v', rfl, hC2, hR2, hT2⟩
    have hnq : c.images.ownBlock ≠ some q := row_ne HR1.out HE1.out (by decide)
    have E2 := HE1.out.touch hT2 (fun e => by rcases e with e | e; exact hbq e.symm; exact hnq e)
    have hkb : kb ≠ b := (HK1.out.ne_blk HC1.out.1 (by decide)).1
    have hnr := HK1.out.ne_row HR1.out (by decide)
    have K2 := HK1.out.touch hT2 (fun e => by rcases e with e | e; exact hkb e; exact hnr.1 e) (fun e => by rcases e with e | e; exact hmbb e; exact hnr.2 e)
    have T2 : Touch (fun k => k = b ∨ k = mb ∨ c.images.ownBlock = some k) w w2 := (HT1.out.mono (fun k _ e => Or.inr (Or.inl e))).trans (hT2.mono (fun k _ e => by rcases e with e | e; exact Or.inl e; exact Or.inr (Or.inr e)))
    have HC2 := Lib.hid hC2
    have HR2 := Lib.hid hR2
    have HE2 := Lib.hid E2
    have HK2 := Lib.hid K2
    have HT2 := Lib.hid T2
    have hcl : clip (n : Int) = n := by unfold clip; rw [if_neg (by omega), if_neg (by omega)]; omega
    have HN := Lib.hid (fun W (hb : Below w2.heap.size w2 W) => (show Calls Tryz.prog 35 #[.int .i64 (n : Int)] W fun e w' => ∃ t, e = .returned (.pointer (some ⟨t, 0, none⟩)) ∧ w2.heap.size ≤ t ∧ Hid (TallyAt w' t n (List.replicate 9 false)) ∧ Below w2.heap.size w2 w' ∧ Below W.heap.size W w' from
      (newTally_any (n : Int) W).mono (fun e w' ⟨t, he, hts, hta, hbt⟩ => ⟨t, he, Nat.le_trans hb.size hts, Lib.hid (by rw [← hcl]; exact hta), below_step hb hbt, hbt⟩)))
    have HKS := Lib.hid (fun W (hb : Below w2.heap.size w2 W) => (show W.cell? ⟨q, 0, none⟩ = some (.int .i64 g) ∧ W.cell? ⟨q, 1, none⟩ = some (.int .i64 c.ballot) ∧ W.cell? ⟨q, 2, none⟩ = some (.string (markOf (seen Bk (ba T)) (ba T))) ∧ W.cell? ⟨b, 1, none⟩ = some (.int .i64 (n : Int)) from
      ⟨(HE2.out.below hb).cell 0, (HE2.out.below hb).cell 1, (HE2.out.below hb).cell 2, by rw [← hcn]; exact (HC2.out.below hb).hd 1 (by omega)⟩))
    have HKE := Lib.hid (fun W (hb : Below w2.heap.size w2 W) (v : Value) (o : Obj) => (show ((W.setCell ⟨b, 84, none⟩ v).alloc o).cell? ⟨q, 0, none⟩ = some (.int .i64 g) ∧ ((W.setCell ⟨b, 84, none⟩ v).alloc o).cell? ⟨q, 1, none⟩ = some (.int .i64 c.ballot) ∧ ((W.setCell ⟨b, 84, none⟩ v).alloc o).cell? ⟨q, 2, none⟩ = some (.string (markOf (seen Bk (ba T)) (ba T))) ∧ ((W.setCell ⟨b, 84, none⟩ v).alloc o).cell? ⟨b, 1, none⟩ = some (.int .i64 (n : Int)) from by
      have hE := ((HE2.out.below hb).set_other (a := ⟨b, 84, none⟩) (Ne.symm hbq) v).alloc o
      have hC := ((HC2.out.below hb).setJob v).alloc o
      exact ⟨hE.cell 0, hE.cell 1, hE.cell 2, by rw [← hcn]; exact hC.hd 1 (by omega)⟩))
    have hb0 : Below w2.heap.size w2 w2.drew := (Below.refl _ w2).drew
    have hk0 := HKS.out _ hb0
    have f84 : ∀ W, Below w2.heap.size w2 W → W.frozen? ⟨b, 84, none⟩ = false := fun W hb => (HC2.out.below hb).1.free 84
    have HF84 := Lib.hid f84
    have H84 := Lib.hid (fun W (hb : Below w2.heap.size w2 W) => (show W.cell? ⟨b, 84, none⟩ = some c.job from (HC2.out.below hb).ft 0))
    have hbl2 := HC2.out.1.lt
    have hql2 := HE2.out.lt
    clear hC2 hR2 hT2 E2 K2 T2 hnr hkb hnq HC1 HE1 HK1 HR1 HT1 HKn f84 hcl
    obtain ⟨mkv, hmkv⟩ : ∃ mkv, mkv = markOf (seen Bk (ba T)) (ba T) := ⟨_, rfl⟩
    rw [← hmkv] at HKS HKE hk0
    have Hmkv := Lib.hid hmkv
    clear hmkv
    go_wp2_with fail
    go_region_held3 (fun W => W.cell? ⟨q, 0, none⟩ = some (.int .i64 g) ∧ W.cell? ⟨q, 1, none⟩ = some (.int .i64 c.ballot) ∧ W.cell? ⟨q, 2, none⟩ = some (.string mkv) ∧ W.cell? ⟨b, 1, none⟩ = some (.int .i64 (n : Int)))
      (first | with_reducible exact hk0 | with_reducible exact HKS.out _ hba | with_reducible exact HKS.out _ hbb | with_reducible exact HKE.out _ hbb _ _ | go_keep)
      (first
      | (go_at_call 35; with_reducible refine (HN.out w2.drew hb0).mono ?_; rintro e wa ⟨ta, rfl, hta, hTa, hba, hba2⟩)
      | (go_at_call 35; refine (HN.out wa hba).mono ?_; rintro e wb ⟨tb, rfl, htb, hTb, hbb, hbb2⟩; have k84 := H84.out wb hbb; have g84 := HF84.out wb hbb; have hblb := Nat.lt_of_lt_of_le hbl2 hbb.size))
    all_goals
      go_end0
      have CB := HC2.out.below hbb
      have TAb := tallyAt_below hTa.out hbb2
      have hab : ta ≠ b := hTa.out.1.ne (HC2.out.below hba).1 (by decide)
      have hbb' : tb ≠ b := hTb.out.1.ne CB.1 (by decide)
      have hszb := hbb.size
      have hT2s := HT2.out.size
      have RB := ownsRow_below HR2.out hbb
      have hnb : v'.ownBlock ≠ some b := row_ne RB CB.1 (by decide)
      have KB := HK2.out.below hbb
      have hkb := (KB.ne_blk CB.1 (by decide))
      have TS : Touch (fun k => k = b) wb (wb.setCell ⟨b, 84, none⟩ (.pointer (some ⟨wb.heap.size, 0, none⟩))) := touchOne_set (Touch.refl _ _) _
      have TT := (HT2.out.trans (Touch.of_below hbb)).trans (TS.mono (fun k _ e => Or.inl e))
      have JN : ∀ t1 t2 : Nat, Blk ((wb.setCell ⟨b, 84, none⟩ (.pointer (some ⟨wb.heap.size, 0, none⟩))).alloc (.cells (jobVals g c.ballot mkv (ba T) t1 t2 true false).toArray 104)) wb.heap.size (jobVals g c.ballot mkv (ba T) t1 t2 true false) 104 := fun t1 t2 => by
        have := Blk.new (wb.setCell ⟨b, 84, none⟩ (.pointer (some ⟨wb.heap.size, 0, none⟩))) (jobVals g c.ballot mkv (ba T) t1 t2 true false) 104
        simpa using this
      have C3 := fun o => (CB.setJob (.pointer (some ⟨wb.heap.size, 0, none⟩))).alloc o
      have R3 := fun o => (row_touch RB TS (fun g hg e => hnb (by rw [hg, e]))).alloc o
      have K3 := fun o => (KB.touch TS (fun e => hkb.1 e) (fun e => hkb.2 e)).below ((Below.refl _ _).alloc (Nat.le_refl _) o)
      have A3 : ∀ o, TallyAt ((wb.setCell ⟨b, 84, none⟩ (.pointer (some ⟨wb.heap.size, 0, none⟩))).alloc o) ta n (List.replicate 9 false) := fun o => ⟨(TAb.1.set_other (a := ⟨b, 84, none⟩) hab _).alloc o, TAb.2⟩
      have B3 : ∀ o, TallyAt ((wb.setCell ⟨b, 84, none⟩ (.pointer (some ⟨wb.heap.size, 0, none⟩))).alloc o) tb n (List.replicate 9 false) := fun o => ⟨(hTb.out.1.set_other (a := ⟨b, 84, none⟩) hbb' _).alloc o, hTb.out.2⟩
      have e1 : w.heap.size ≤ ta := by omega
      have e2 : w.heap.size ≤ tb := by omega
      have e3 : w.heap.size ≤ wb.heap.size := by omega
      first
      | exact ⟨v', wb.heap.size, ta, tb, rfl, C3 _, R3 _, by rw [← Hmkv.out]; exact JN ta tb, A3 _, B3 _, K3 _, e1, e3, TT.alloc _⟩
      | exact ⟨v', wb.heap.size, tb, ta, rfl, C3 _, R3 _, by rw [← Hmkv.out]; exact JN tb ta, B3 _, A3 _, K3 _, e2, e3, TT.alloc _⟩
end Go.Proofs.YtaemlplcjjbamaaGreatDoor
namespace Go.Proofs.YtaemlplcjjbamaaGreatDoor
open Go.RowKit
def sorted (l : List Int) : List Int := l.mergeSort fun x y => decide (x ≤ y)
theorem sorted_length (l : List Int) : (sorted l).length = l.length := List.length_mergeSort l
def reach (l : List Int) : Int := if l.length = 0 then 0 else (sorted l).getD (l.length - major l.length) 0
theorem reached_any (w : World) (ad : Option Addr) (cap : Nat) (l : List Int) (hl : l.length ≤ 1000000) (h : IntsAt .i64 w ad l) :
    Calls Tryz.prog 89 #[.slice ad l.length cap] w fun e w' => e = .returned (.int .i64 (reach l)) ∧ Below w.heap.size w w' := by
  obtain ⟨n, hn⟩ : ∃ n, n = l.length := ⟨_, rfl⟩
  rw [← hn]
  by_cases h0 : n = 0
  · have hd : ((n : Int) == 0) = true := by rw [h0]; rfl
    have hr : reach l = 0 := by unfold reach; rw [if_pos (by omega)]
    rw [hr]
    clear hr h0 hn hl h
    go_enter Tryz.func89, Tryz.ntmps89
    go_wp2_with fail
    go_ret
    exact ⟨rfl, Below.refl _ _⟩
  · have hd : ((n : Int) == 0) = false := by simp; omega
    obtain ⟨b, off, rfl, hb, hc⟩ : ∃ b off, ad = some ⟨b, off, none⟩ ∧ b < w.heap.size ∧ ∀ i (hi : i < l.length), w.cell? ⟨b, off + i, none⟩ = some (.int .i64 l[i]) := by
      rcases h with h | h
      · subst h; exact absurd hn h0
      · exact h
    clear h
    have hcell : ∀ j, j < l.length → w.cell? ⟨b, off + j, none⟩ = some (.int .i64 (l.getD j 0)) := fun j hj => by
      rw [hc j hj, List.getD, List.getElem?_eq_getElem hj]; rfl
    have Hcell := Lib.hid hcell
    have Hn := Lib.hid hn
    have hn1 : n ≤ 1000000 := by omega
    have hn2 : 1 ≤ n := by omega
    clear hc hcell hn
    go_enter Tryz.func89, Tryz.ntmps89
    go_wp2_with fail
    refine (Tryz.slices_Clone_int b off n cap l w (Nat.le_of_eq Hn.out) (by omega) Hcell.out).mono ?_
    rintro e w1 ⟨v, rfl, hown, hv, hb1⟩
    obtain ⟨g, cap2, rfl, hg1, hg2, hnc, hcm, hlen, hH⟩ := Lib.holds_of_ownsRow hown hv
    rw [List.take_of_length_le (Nat.le_of_eq Hn.out.symm)] at hH hown
    have hsz : g < w1.heap.size := hg2
    clear hv
    have Hown := Lib.hid hown
    have HH := Lib.hid hH
    clear hown hH
    go_wp2_with fail
    have hsort := Tryz.slices_Sort_int g 0 cap2 l w1 HH.out hsz (by have := Hn.out; omega)
    rw [← Hn.out] at hsort
    refine hsort.mono ?_
    rintro e w2 ⟨rfl, q, os, hw2⟩
    have hown2 := Lib.ownsRow_putRow (q := q) (k := n) (ys := sorted l) Hown.out ((sorted_length l).trans Hn.out.symm) (Nat.le_refl _)
    have hb2 : Below w.heap.size w (Go.Sort.putRow (Value.int .i64) (Go.Sort.ahead w1 q) g 0 (sorted l).toArray) := Lib.below_putRow hb1 hg1
    have hcell2 : ∀ k, k < n → w2.cell? ⟨g, k, none⟩ = some (.int .i64 ((sorted l).getD k 0)) := by
      intro k hk
      have hlt : g < (Go.Sort.putRow (Value.int .i64) (Go.Sort.ahead w1 q) g 0 (sorted l).toArray).heap.size := by
        simpa [Go.Sort.putRow, Go.Sort.mapBlock, Go.Sort.ahead] using hsz
      rw [hw2]
      show (Go.Sort.grow (Go.Sort.putRow (Value.int .i64) (Go.Sort.ahead w1 q) g 0 (sorted l).toArray) os).cell? _ = _
      rw [Go.Sort.cell?_grow _ _ _ hlt]
      have hsl : (sorted l).length = n := (sorted_length l).trans Hn.out.symm
      rw [hown2.cellAt (j := k) (by simp; omega), List.take_of_length_le (by omega), List.getElem?_map, List.getD, List.getElem?_eq_getElem (by omega)]
      rfl
    have hb3 : Below w.heap.size w w2 := by
      rw [hw2]
      exact ⟨hb2.os, hb2.tape, hb2.output, Nat.le_trans hb2.size (by rw [Go.Sort.size_grow]; exact Nat.le_add_right _ _), fun k hk => by
        rw [← hb2.block k hk]
        exact Go.Sort.heap_grow_old _ _ (Nat.lt_of_lt_of_le hk hb2.size)⟩
    clear hown2 hb2 hw2 hsort Hown HH hb1
    have hm : major n ≤ n := by unfold major; omega
    obtain ⟨p, hp⟩ : ∃ p, p = n - major n := ⟨_, rfl⟩
    have hm1 : 1 ≤ major n := by unfold major; omega
    have hpi : (n : Int) - (major n : Int) = (p : Int) := by omega
    have hpn : p < n := by omega
    have hc2 := hcell2 p hpn
    have hr : reach l = (sorted l).getD p 0 := by unfold reach; rw [if_neg (by have := Hn.out; omega), hp, Hn.out]
    rw [← hr] at hc2
    clear hr hcell2 hp
    go_wp2_with fail
    refine (majority_any n _ (by omega)).mono ?_
    rintro e wx ⟨rfl, rfl⟩
    go_wp2_with fail
    go_ret
    exact ⟨rfl, hb3⟩
theorem reach_same (l : List Int) (t : Int) (h : ∀ x ∈ l, x = t) (h1 : l ≠ []) : reach l = t := by
  have hl : l.length ≠ 0 := fun e => h1 (List.length_eq_zero_iff.1 e)
  unfold reach
  rw [if_neg hl]
  have hm : major l.length ≤ l.length ∧ 1 ≤ major l.length := by unfold major; omega
  have hp : l.length - major l.length < (sorted l).length := by rw [sorted_length]; omega
  rw [List.getD, List.getElem?_eq_getElem hp, Option.getD_some]
  have hmem := List.getElem_mem hp
  exact h _ ((List.mergeSort_perm l _).mem_iff.1 hmem)
end Go.Proofs.YtaemlplcjjbamaaGreatDoor
