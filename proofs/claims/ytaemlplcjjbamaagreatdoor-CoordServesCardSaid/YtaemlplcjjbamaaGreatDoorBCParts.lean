/- The walk of a coordinator's parts: the parts of a generation for a vault to which nothing is sent yet. Condition: the texts have at most 30000 bytes. -/
import Derived.Test.YtaemlplcjjbamaaGreatDoorBAsk
import Derived.Test.YtaemlplcjjbamaaGreatDoorBBasis
import Derived.Test.YtaemlplcjjbamaaGreatDoorBSend
import Derived.Test.YtaemlplcjjbamaaGreatDoorBCut
import Derived.Lib.MinMax
import Derived.Deep.RegionHeld3
namespace Go.Proofs.YtaemlplcjjbamaaGreatDoor
open Go Go.RowKit
set_option linter.unusedVariables false
attribute [local go_sem ↓] Go.wp_at_zero Go.wp_at_succ
def partM (id v bal gen bas : Int) (mk : ByteArray) (pa po : Int) (pt : ByteArray) : MG := { MG.zero with k := 4, fr := id, to_ := v, bal := bal, gen := gen, bas := bas, mrk := mk, pa := pa, po := po, pt := pt }
/-- the messages that bring a text -/
def partsL (id v bal gen bas : Int) (mk : ByteArray) (s : ByteArray) (n : Nat) : List MG := (List.range n).map fun (i : Nat) => partM id v bal gen bas mk (i : Int) (npieces s.size 1024 : Nat) (piece s 1024 i)
theorem partsL_succ (id v bal gen bas : Int) (mk s : ByteArray) (k : Nat) : partsL id v bal gen bas mk s (k + 1) = partsL id v bal gen bas mk s k ++ [partM id v bal gen bas mk k (npieces s.size 1024 : Nat) (piece s 1024 k)] := by
  unfold partsL
  rw [List.range_succ, List.map_append]
  rfl
theorem partsL_length (id v bal gen bas : Int) (mk s : ByteArray) (k : Nat) : (partsL id v bal gen bas mk s k).length = k := by simp [partsL]
theorem npieces_small {s : ByteArray} (h : s.size ≤ 30001) : 1 ≤ npieces s.size 1024 ∧ npieces s.size 1024 ≤ 30 := by
  unfold npieces
  have : (s.size + 1024 - 1) / 1024 ≤ 30 := by omega
  omega
theorem CoordAt.peerS {w : World} {b : Nat} {c : CSt} {ps : List Peer} {v : Nat} {q : Peer} (h : CoordAt w b { c with peers := peersVals (ps.set v q) }) (hv : v < ps.length) (j : Nat) (hj : j < 8) : w.cell? ⟨b, 12 + v * 8 + j, none⟩ = q.vals[j]? := by
  have := h.peer rfl v (by rw [List.length_set]; exact hv) j hj
  rw [this, List.getElem_set_self]
theorem cutParts_at (s : ByteArray) (k i : Nat) (h : i < (cutParts s k).length) : (cutParts s k)[i] = (((i : Nat) : Int), ((npieces s.size k : Nat) : Int), piece s k i) := by simp [cutParts]
def PartsSays (b kb mb v : Nat) (c : CSt) (ps : List Peer) (p : Peer) (Bk : List ByteArray) (gen : Int) (mk : ByteArray) (w : World) (e : Ending) (w' : World) : Prop :=
  ∃ x bas s pk Bk', e = .returned x ∧ (s.size ≤ 30001 ∧ (0 ≤ c.floor → 0 ≤ gen → 0 ≤ bas ∧ bas ≤ gen)) ∧ w'.ownsRow w.heap.size 30 14 x (npieces s.size 1024) (msgsV (partsL c.id v c.ballot gen bas mk s (npieces s.size 1024))) ∧
    CoordAt w' b { c with peers := peersVals (ps.set v { p with pack := .pointer (some ⟨pk, 0, none⟩), cursor := 0 }) } ∧ BookIs w' kb mb Bk' ∧ Bk'.length ≤ Bk.length + 120020 ∧ Touch (fun k => k = b ∨ k = mb) w w'
set_option maxRecDepth 100000 in
set_option maxHeartbeats 8000000 in
theorem parts_any (b B kb mb v : Nat) (c : CSt) (ps : List Peer) (I : List (Int × List UInt8)) (Bk : List ByteArray) (gen : Int) (mk : ByteArray) (T : List UInt8) (w : World) (h : CoordAt w b c) (hp : c.peers = peersVals ps) (hps : ps.length = 9) (hv : v < 9) (hbk : c.book = .pointer (some ⟨kb, 0, none⟩))
    (ht : (ps[v]'(by omega)).told = true) (hwh : (ps[v]'(by omega)).whole = false) (hpk : (ps[v]'(by omega)).pack = .pointer none)
    (hr : w.ownsRow B 151 2 c.images I.length (knV I)) (hl : I.length ≤ 8) (hO : ∀ x ∈ I, x.2.length ≤ 30000) (hT : T.length ≤ 30000) (hK : BookIs w kb mb Bk) (hBl : Bk.length ≤ 600000000) :
    Calls Tryz.prog 59 #[.pointer (some ⟨b, 0, none⟩), .int .i64 (v : Int), .int .i64 gen, .string mk, .string (ba T)] w (PartsSays b kb mb v c ps (ps[v]'(by omega)) Bk gen mk w) := by
  have hbl := h.1.lt
  obtain ⟨p, hpv⟩ : ∃ p, p = ps[v]'(by omega) := ⟨_, rfl⟩
  rw [← hpv] at ht hwh hpk ⊢
  have htd := ht
  have hmbb := (hK.ne_blk h.1 (by decide)).2
  have hkbb := (hK.ne_blk h.1 (by decide)).1
  obtain ⟨ia, ic, hi⟩ := row_shape hr
  have hnr := hK.ne_row hr (by decide)
  have c2 : w.cell? ⟨b, 2, none⟩ = some (.pointer (some ⟨kb, 0, none⟩)) := by rw [← hbk]; exact h.hd 2 (by omega)
  have p7 : w.cell? ⟨b, 12 + v * 8 + 7, none⟩ = some (.pointer none) := by rw [← hpk, hpv]; exact h.peer hp v (by omega) 7 (by omega)
  have HS0 := Lib.hid (send_any kb mb B Bk (.slice none 0 0) [] 0 0 gen T w hK (World.ownsRow_nil _ _ _ _) (by simp) (fun x hx => by cases hx) hT (by omega))
  have HF := Lib.hid (fun w' (ht : Touch (fun k => k = mb) w w') => (show Hid (CoordAt w' b c) ∧ w'.cell? ⟨b, 2, none⟩ = some (.pointer (some ⟨kb, 0, none⟩)) ∧ w'.cell? ⟨b, 8, none⟩ = some (.slice ia I.length ic) ∧ w'.cell? ⟨b, 5, none⟩ = some (.int .i64 c.floor) ∧ w'.cell? ⟨b, 6, none⟩ = some (.int .i64 c.top) ∧ w'.cell? ⟨b, 12 + v * 8, none⟩ = some (.bool true) ∧ w'.cell? ⟨b, 12 + v * 8 + 5, none⟩ = some (.bool false) ∧ w'.cell? ⟨b, 12 + v * 8 + 1, none⟩ = some (.int .i64 p.floor) ∧ w'.cell? ⟨b, 12 + v * 8 + 2, none⟩ = some (.int .i64 p.top) ∧ Hid (w'.ownsRow B 151 2 (.slice ia I.length ic) I.length (knV I)) from by
    have hC : CoordAt w' b c := ⟨h.1.touch ht (fun e => hmbb e.symm), h.2⟩
    refine ⟨Lib.hid hC, by rw [← hbk]; exact hC.hd 2 (by omega), by rw [← hi]; exact hC.hd 8 (by omega), hC.hd 5 (by omega), hC.hd 6 (by omega), by rw [← htd, hpv]; exact hC.peer hp v (by omega) 0 (by omega), by rw [← hwh, hpv]; exact hC.peer hp v (by omega) 5 (by omega), by rw [hpv]; exact hC.peer hp v (by omega) 1 (by omega), by rw [hpv]; exact hC.peer hp v (by omega) 2 (by omega), Lib.hid (by rw [← hi]; exact row_touch hr ht (fun g hg e => hnr.2 (by rw [hg, e])))⟩))
  have hv1 : (0 : Int) ≤ (v : Int) := by omega
  have hv2 : (v : Int) < 9 := by omega
  have Hp := Lib.hid hp
  have Hpv := Lib.hid hpv
  have HO := Lib.hid hO
  have Hm := Lib.hid hmbb
  clear h hp hpv hbk ht hwh hpk hr hO hK hi hnr
  go_enter Tryz.func59, Tryz.ntmps59
  go_wp2_with fail
  refine HS0.out.mono ?_
  rintro e w1 ⟨bs, s, Bk1, rfl, hK1, hL1, hT1, hs1⟩
  obtain ⟨HC1, d2, d8, d5, d6, q0, q5, q1, q2, HR1⟩ := HF.out w1 hT1
  have HS1 := Lib.hid (send_any kb mb B Bk1 (.slice ia I.length ic) I (max p.floor c.floor) (min p.top c.top) gen T w1.drew (hK1.below (Below.refl _ _).drew) (ownsRow_below HR1.out (Below.refl _ _).drew) hl HO.out hT (by omega))
  have HT1 := Lib.hid hT1
  clear hs1 HS0 c2 p7 hK1
  go_wp2_with fail
  have hk0 : w1.drew.cell? ⟨b, 2, none⟩ = some (.pointer (some ⟨kb, 0, none⟩)) ∧ w1.drew.cell? ⟨b, 8, none⟩ = some (.slice ia I.length ic) ∧ w1.drew.cell? ⟨b, 5, none⟩ = some (.int .i64 c.floor) ∧ w1.drew.cell? ⟨b, 6, none⟩ = some (.int .i64 c.top) ∧ w1.drew.cell? ⟨b, 12 + v * 8 + 1, none⟩ = some (.int .i64 p.floor) ∧ w1.drew.cell? ⟨b, 12 + v * 8 + 2, none⟩ = some (.int .i64 p.top) := ⟨d2, d8, d5, d6, q1, q2⟩
  have HKS := Lib.hid (fun w' (ht : Touch (fun k => k = mb) w w') => (show w'.cell? ⟨b, 2, none⟩ = some (.pointer (some ⟨kb, 0, none⟩)) ∧ w'.cell? ⟨b, 8, none⟩ = some (.slice ia I.length ic) ∧ w'.cell? ⟨b, 5, none⟩ = some (.int .i64 c.floor) ∧ w'.cell? ⟨b, 6, none⟩ = some (.int .i64 c.top) ∧ w'.cell? ⟨b, 12 + v * 8 + 1, none⟩ = some (.int .i64 p.floor) ∧ w'.cell? ⟨b, 12 + v * 8 + 2, none⟩ = some (.int .i64 p.top) from ⟨(HF.out w' ht).2.1, (HF.out w' ht).2.2.1, (HF.out w' ht).2.2.2.1, (HF.out w' ht).2.2.2.2.1, (HF.out w' ht).2.2.2.2.2.2.2.1, (HF.out w' ht).2.2.2.2.2.2.2.2.1⟩))
  clear d2 d8 d5 d6 q0 q5 q1 q2 HC1 HR1 hT1
  go_cut [12, 13] (fun v12 v13 wx => ∃ (bs2 : Int) (s2 : List UInt8) (Bk2 : List ByteArray), v12 = .int .i64 bs2 ∧ v13 = .string (ba s2) ∧ Hid (BookIs wx kb mb Bk2) ∧ Hid (Bk2.length ≤ Bk1.length + 60010) ∧ Hid (Touch (fun k => k = mb) w wx) ∧ Hid (SendOk Bk2 I (max p.floor c.floor) (min p.top c.top) gen T bs2 s2))
  case first =>
    go_region_held3 (fun w' => w'.cell? ⟨b, 2, none⟩ = some (.pointer (some ⟨kb, 0, none⟩)) ∧ w'.cell? ⟨b, 8, none⟩ = some (.slice ia I.length ic) ∧ w'.cell? ⟨b, 5, none⟩ = some (.int .i64 c.floor) ∧ w'.cell? ⟨b, 6, none⟩ = some (.int .i64 c.top) ∧ w'.cell? ⟨b, 12 + v * 8 + 1, none⟩ = some (.int .i64 p.floor) ∧ w'.cell? ⟨b, 12 + v * 8 + 2, none⟩ = some (.int .i64 p.top))
      (first | with_reducible exact hk0 | with_reducible exact hk2 | go_keep)
      ((go_at_call 91; refine HS1.out.mono ?_; rintro e w2 ⟨bs2, s2, Bk2, rfl, hK2, hL2, hT2, hs2⟩; have hTT2 := (HT1.out.drew).trans hT2; have hk2 := HKS.out w2 hTT2))
    all_goals go_wp2_with fail
    all_goals go_meet
    all_goals exact ⟨bs2, s2, Bk2, rfl, rfl, Lib.hid hK2, Lib.hid hL2, Lib.hid hTT2, Lib.hid hs2⟩
  case rest =>
    obtain ⟨bs2, s2, Bk2, rfl, rfl, HK2, HL2, HT2, HOk⟩ := hcut
    clear HS1 HT1 HKS hk0
    have hs2l : s2.length ≤ 30001 := by
      have hw := wrapL_len T
      rcases HOk.out with ⟨_, e⟩ | ⟨_, _, _, _, i, O, _, _, hpk, _⟩
      · rw [e]; omega
      · omega
    have hsz2 := ba_size s2
    obtain ⟨S2, hS2⟩ : ∃ S2, S2 = ba s2 := ⟨_, rfl⟩
    rw [← hS2] at hsz2 ⊢
    have hSz : S2.size ≤ 30001 := by omega
    have HBas := Lib.hid (show 0 ≤ c.floor → 0 ≤ gen → 0 ≤ bs2 ∧ bs2 ≤ gen from fun h1 h2 => by
      rcases HOk.out with ⟨e, _⟩ | ⟨_, h3, h4, h5, _⟩
      · omega
      · have : c.floor ≤ max p.floor c.floor := Int.le_max_right _ _
        omega)
    clear hS2 HOk hsz2 hs2l
    obtain ⟨HC2, d2, d8, d5, d6, q0, q5, q1, q2, HR2⟩ := HF.out wc HT2.out
    have hnp := npieces_small hSz
    have hco : cutOf S2 1024 = (cutParts S2 1024, 0) := by unfold cutOf; rw [if_neg (by omega), if_neg (by omega), if_neg (by show ¬ 4096 < npieces S2.size 1024; omega)]; rfl
    obtain ⟨N, hN⟩ : ∃ N, N = npieces S2.size 1024 := ⟨_, rfl⟩
    have HCu := Lib.hid (show Calls Tryz.prog 92 #[.string S2, .int .i64 1024] wc fun e w' => ∃ pa pc, e = .returned (.tuple #[.slice pa N pc, .int .i64 0]) ∧ w'.ownsRow wc.heap.size 27 3 (.slice pa N pc) N (pscells (cutParts S2 1024)) ∧ Below wc.heap.size wc w' from
      (cut_any S2 1024 wc (by unfold maxLen; omega) (by omega)).mono (fun e w' hh => by
        obtain ⟨v, he, hrw, hb⟩ := hh
        rw [hco] at he hrw
        rw [cutParts_length, ← hN] at hrw
        obtain ⟨pa, pc, rfl⟩ := row_shape hrw
        exact ⟨pa, pc, he, hrw, hb⟩))
    have HN := Lib.hid hN
    rw [← hN] at hnp
    have hn1 := hnp.1
    have hn30 := hnp.2
    clear hco d2 d8 d5 d6 q0 q5 q1 q2 HR2 HF hN hnp
    go_wp2_with fail
    refine HCu.out.mono ?_
    rintro e w3 ⟨pa, pc, rfl, hr3, hb3⟩
    have C3 := HC2.out.below hb3
    have HR3 := Lib.hid hr3
    have HK3 := Lib.hid (HK2.out.below hb3)
    have HT3 := Lib.hid (HT2.out.trans (Touch.of_below hb3))
    have p7 : w3.cell? ⟨b, 12 + v * 8 + 7, none⟩ = some p.pack := by rw [Hpv.out]; exact C3.peer Hp.out v (by omega) 7 (by omega)
    have p6 : w3.cell? ⟨b, 12 + v * 8 + 6, none⟩ = some (.int .i64 p.cursor) := by rw [Hpv.out]; exact C3.peer Hp.out v (by omega) 6 (by omega)
    have f7 := C3.1.free (12 + v * 8 + 7)
    have f6 := C3.1.free (12 + v * 8 + 6)
    have hl3 := C3.1.lt
    have HC3 := Lib.hid C3
    clear hr3 hb3 C3 HC2 HK2 HT2 HCu
    have hvq : v < ps.length := by omega
    obtain ⟨pk, hpk⟩ : ∃ pk, pk = w3.heap.size := ⟨_, rfl⟩
    have C4 : CoordAt (((w3.setCell ⟨b, 12 + v * 8 + 7, none⟩ (.pointer (some ⟨pk, 0, none⟩))).setCell ⟨b, 12 + v * 8 + 6, none⟩ (.int .i64 0)).alloc (.cells #[.int .i64 gen, .int .i64 bs2, .string mk, .slice pa N pc] 156)) b { c with peers := peersVals (ps.set v { p with pack := .pointer (some ⟨pk, 0, none⟩), cursor := 0 }) } := by
      have q1 := HC3.out.asPeers Hp.out v hvq
      rw [← Hpv.out] at q1
      have q2 := q1.setPeer2 hvq 7 (by omega) (.pointer (some ⟨pk, 0, none⟩)) { p with pack := .pointer (some ⟨pk, 0, none⟩) } rfl
      exact (q2.setPeer2 hvq 6 (by omega) (.int .i64 0) { p with pack := .pointer (some ⟨pk, 0, none⟩), cursor := 0 } rfl).alloc _
    have TS : Touch (fun k => k = b) w3 ((w3.setCell ⟨b, 12 + v * 8 + 7, none⟩ (.pointer (some ⟨pk, 0, none⟩))).setCell ⟨b, 12 + v * 8 + 6, none⟩ (.int .i64 0)) := touchOne_set (touchOne_set (Touch.refl _ _) _) _
    have Q4 : Blk (((w3.setCell ⟨b, 12 + v * 8 + 7, none⟩ (.pointer (some ⟨pk, 0, none⟩))).setCell ⟨b, 12 + v * 8 + 6, none⟩ (.int .i64 0)).alloc (.cells #[.int .i64 gen, .int .i64 bs2, .string mk, .slice pa N pc] 156)) pk [.int .i64 gen, .int .i64 bs2, .string mk, .slice pa N pc] 156 := by
      have := Blk.new ((w3.setCell ⟨b, 12 + v * 8 + 7, none⟩ (.pointer (some ⟨pk, 0, none⟩))).setCell ⟨b, 12 + v * 8 + 6, none⟩ (.int .i64 0)) [.int .i64 gen, .int .i64 bs2, .string mk, .slice pa N pc] 156
      rw [show ((w3.setCell ⟨b, 12 + v * 8 + 7, none⟩ (.pointer (some ⟨pk, 0, none⟩))).setCell ⟨b, 12 + v * 8 + 6, none⟩ (.int .i64 0)).heap.size = pk from by simp; exact hpk.symm] at this
      exact this
    have hn3 : (Value.slice pa N pc).ownBlock ≠ some b := row_ne HR3.out HC3.out.1 (by decide)
    have R4 := (row_touch HR3.out TS (fun g hg e => hn3 (by rw [hg, e]))).alloc (.cells #[.int .i64 gen, .int .i64 bs2, .string mk, .slice pa N pc] 156)
    have K4 := (HK3.out.touch TS (fun (e : kb = b) => hkbb e) (fun (e : mb = b) => hmbb e)).below ((Below.refl _ _).alloc (Nat.le_refl _) (.cells #[.int .i64 gen, .int .i64 bs2, .string mk, .slice pa N pc] 156))
    have T4 : Touch (fun k => k = b ∨ k = mb) w _ := ((HT3.out.mono (fun k _ e => Or.inr e)).trans (TS.mono (fun k _ e => Or.inl e))).alloc (.cells #[.int .i64 gen, .int .i64 bs2, .string mk, .slice pa N pc] 156)
    have HC4 := Lib.hid C4
    have HQ4 := Lib.hid Q4
    have HR4 := Lib.hid R4
    have HK4 := Lib.hid K4
    have HT4 := Lib.hid T4
    have Hmin := Lib.hid (show min (32 : Int) (N : Int) = (N : Int) by omega)
    have hbpk : b < pk := by omega
    clear C4 TS Q4 hn3 R4 K4 T4 HR3 HK3 HT3 HC3
    have Hpk := Lib.hid hpk
    clear hpk
    go_wp2_with fail
    try rw [Hmin.out]
    rw [← Hpk.out]
    generalize (((w3.setCell ⟨b, 12 + v * 8 + 7, none⟩ (.pointer (some ⟨pk, 0, none⟩))).setCell ⟨b, 12 + v * 8 + 6, none⟩ (.int .i64 0)).alloc (.cells #[.int .i64 gen, .int .i64 bs2, .string mk, .slice pa N pc] 156)) = w4 at HC4 HQ4 HR4 HK4 HT4 ⊢
    clear p7 p6 f7 f6 hl3
    go_loopw [16, 150] (fun ov iv wr => ∃ k : Nat, iv = .int .i64 (k : Int) ∧ k ≤ N ∧ Hid (wr.ownsRow w.heap.size 30 14 ov k (msgsV (partsL c.id v c.ballot gen bs2 mk S2 k))) ∧ Hid (CoordAt wr b { c with peers := peersVals (ps.set v { p with pack := .pointer (some ⟨pk, 0, none⟩), cursor := ((k % N : Nat) : Int) }) }) ∧ Hid (Blk wr pk [.int .i64 gen, .int .i64 bs2, .string mk, .slice pa N pc] 156) ∧ Hid (wr.ownsRow wc.heap.size 27 3 (.slice pa N pc) N (pscells (cutParts S2 1024))) ∧ Hid (BookIs wr kb mb Bk2) ∧ Hid (Touch (fun k => k = b ∨ k = mb) w wr)) (fun _ iv _ => N - (intOf iv).toNat)
    case atStart => exact ⟨0, rfl, Nat.zero_le _, Lib.hid (World.ownsRow_nil _ _ _ _), Lib.hid (by rw [Nat.zero_mod]; exact HC4.out), HQ4, HR4, HK4, HT4⟩
    case round =>
      obtain ⟨k, rfl, hk, HV, HC, HQ, HR, HK, HT⟩ := hrel
      clear HC4 HQ4 HR4 HK4 HT4
      by_cases hlt : k < N
      · have hkm : k % N = k := Nat.mod_eq_of_lt hlt
        have hszr := HT.out.size
        rw [hkm] at HC
        have HTo := Lib.hid (to_any b _ (v : Int) 4 wr HC.out)
        go_wp2_with fail
        refine HTo.out.mono ?_
        rintro e w5 ⟨rfl, hb5⟩
        have C5 := HC.out.below hb5
        have Q5 := HQ.out.below hb5
        have R5 := ownsRow_below HR.out hb5
        have V5 := ownsRow_below HV.out hb5
        have K5 := HK.out.below hb5
        have T5 := HT.out.trans (Touch.of_below hb5)
        have HCv := Lib.hid (And.intro C5 (And.intro Q5 (And.intro R5 (And.intro V5 (And.intro K5 T5)))))
        clear C5 Q5 R5 V5 K5 T5 hb5 HTo HC HQ HR HV HK HT
        simp only [msgArr]
        go_wp2_with fail
        have hbA : Below w5.heap.size w5 (w5.alloc (.cells #[.int .i64 4, .int .i64 c.id, .int .i64 (v : Int), .int .i64 c.ballot, .int .i64 0, .int .i64 0, .int .i64 0, .int .i64 0, .int .i64 0, .string ⟨#[]⟩, .int .i64 0, .int .i64 0, .string ⟨#[]⟩, .slice none 0 0] 30)) := (Below.refl _ w5).alloc (Nat.le_refl _) _
        have M6 := Blk.new w5 [.int .i64 4, .int .i64 c.id, .int .i64 (v : Int), .int .i64 c.ballot, .int .i64 0, .int .i64 0, .int .i64 0, .int .i64 0, .int .i64 0, .string ⟨#[]⟩, .int .i64 0, .int .i64 0, .string ⟨#[]⟩, .slice none 0 0] 30
        obtain ⟨C5, Q5, R5, V5, K5, T5⟩ := HCv.out
        have hVlt := fun g (hg : (u16 : Value).ownBlock = some g) => (row_lt V5 hg).2
        have HVlt := Lib.hid hVlt
        have C6 := C5.below hbA
        have Q6 := Q5.below hbA
        have R6 := ownsRow_below R5 hbA
        have V6 := ownsRow_below V5 hbA
        have K6 := K5.below hbA
        have T6 := T5.trans (Touch.of_below hbA)
        have hpkl := Q5.lt
        have hkl := K5.map_lt
        have hkl2 := K5.at_.lt
        have hbl5 := C5.1.lt
        have hsz5 := T5.size
        clear C5 Q5 R5 V5 K5 T5 hbA HCv hVlt
        generalize w5.alloc (.cells #[.int .i64 4, .int .i64 c.id, .int .i64 (v : Int), .int .i64 c.ballot, .int .i64 0, .int .i64 0, .int .i64 0, .int .i64 0, .int .i64 0, .string ⟨#[]⟩, .int .i64 0, .int .i64 0, .string ⟨#[]⟩, .slice none 0 0] 30) = w6 at M6 C6 Q6 R6 V6 K6 T6 ⊢
        obtain ⟨q, hq⟩ : ∃ q, q = w5.heap.size := ⟨_, rfl⟩
        rw [← hq] at M6 HVlt ⊢
        have Hq := Lib.hid hq
        have hpq : pk < q := by omega
        have hmq : mb < q := by omega
        have hkq : kb < q := by omega
        have hbq : b < q := by omega
        have hwq : w.heap.size ≤ q := by omega
        obtain ⟨g, cap, hsv, hg0, hg, _, _, hcell⟩ := row_some R6 (by omega)
        simp only [Value.slice.injEq] at hsv
        obtain ⟨rfl, _, rfl⟩ := hsv
        have hkc : k < (cutParts S2 1024).length := by rw [cutParts_length, ← HN.out]; exact hlt
        obtain ⟨z0, z1, z2⟩ := pscells_at (cutParts S2 1024) k hkc
        rw [cutParts_at S2 1024 k hkc] at z0 z1 z2
        have y0 := (hcell (k * 3) (by omega)).trans z0
        have y1 := (hcell (k * 3 + 1) (by omega)).trans z1
        have y2 := (hcell (k * 3 + 2) (by omega)).trans z2
        simp only at y0 y1 y2
        rw [← HN.out] at y1
        have x6 : w6.cell? ⟨b, 12 + v * 8 + 6, none⟩ = some (.int .i64 (k : Int)) := C6.peerS hvq 6 (by omega)
        have x7 : w6.cell? ⟨b, 12 + v * 8 + 7, none⟩ = some (.pointer (some ⟨pk, 0, none⟩)) := C6.peerS hvq 7 (by omega)
        have k1 : w6.cell? ⟨pk, 1, none⟩ = some (.int .i64 bs2) := Q6.cell 1
        have k3 : w6.cell? ⟨pk, 3, none⟩ = some (.slice (some ⟨g, 0, none⟩) N pc) := Q6.cell 3
        have m4 : w6.cell? ⟨q, 4, none⟩ = some (.int .i64 0) := M6.cell 4
        have m5 : w6.cell? ⟨q, 5, none⟩ = some (.int .i64 0) := M6.cell 5
        have m9 : w6.cell? ⟨q, 9, none⟩ = some (.string ⟨#[]⟩) := M6.cell 9
        have m10 : w6.cell? ⟨q, 10, none⟩ = some (.int .i64 0) := M6.cell 10
        have m11 : w6.cell? ⟨q, 11, none⟩ = some (.int .i64 0) := M6.cell 11
        have m12 : w6.cell? ⟨q, 12, none⟩ = some (.string ⟨#[]⟩) := M6.cell 12
        have g4 := M6.free 4
        have g5 := M6.free 5
        have g9 := M6.free 9
        have g10 := M6.free 10
        have g11 := M6.free 11
        have g12 := M6.free 12
        have hql := M6.lt
        have hk0 : (0 : Int) ≤ (k : Int) := by omega
        have HF6 := Lib.hid (And.intro M6 (And.intro C6 (And.intro Q6 (And.intro R6 (And.intro V6 (And.intro K6 T6))))))
        have hgq : g ≠ q := fun e => row_ne R6 M6 (by decide) (by rw [e]; rfl)
        clear M6 C6 Q6 R6 V6 K6 T6 hq hcell z0 z1 z2
        go_cut [] (fun wx => Hid (Blk wx q [.int .i64 4, .int .i64 c.id, .int .i64 (v : Int), .int .i64 c.ballot, .int .i64 gen, .int .i64 bs2, .int .i64 0, .int .i64 0, .int .i64 0, .string mk, .int .i64 (k : Int), .int .i64 (N : Int), .string (piece S2 1024 k), .slice none 0 0] 30) ∧ Hid (CoordAt wx b { c with peers := peersVals (ps.set v { p with pack := .pointer (some ⟨pk, 0, none⟩), cursor := ((k : Nat) : Int) }) }) ∧ Hid (Blk wx pk [.int .i64 gen, .int .i64 bs2, .string mk, .slice (some ⟨g, 0, none⟩) N pc] 156) ∧ Hid (wx.ownsRow wc.heap.size 27 3 (.slice (some ⟨g, 0, none⟩) N pc) N (pscells (cutParts S2 1024))) ∧ Hid (wx.ownsRow w.heap.size 30 14 u16 k (msgsV (partsL c.id v c.ballot gen bs2 mk S2 k))) ∧ Hid (BookIs wx kb mb Bk2) ∧ Hid (Touch (fun k => k = b ∨ k = mb) w wx))
        case first =>
          go_region
          obtain ⟨M6, C6, Q6, R6, V6, K6, T6⟩ := HF6.out
          have TS7 : Touch (fun j => j = q) w6 (((((((w6.setCell ⟨q, 4, none⟩ (.int .i64 gen)).setCell ⟨q, 5, none⟩ (.int .i64 bs2)).setCell ⟨q, 9, none⟩ (.string mk)).setCell ⟨q, 10, none⟩ (.int .i64 (k : Int))).setCell ⟨q, 11, none⟩ (.int .i64 (N : Int))).setCell ⟨q, 12, none⟩ (.string (piece S2 1024 k))).drew) := (touchOne_set (touchOne_set (touchOne_set (touchOne_set (touchOne_set (touchOne_set (Touch.refl _ _) _) _) _) _) _) _).drew
          have M7 : Blk (((((((w6.setCell ⟨q, 4, none⟩ (.int .i64 gen)).setCell ⟨q, 5, none⟩ (.int .i64 bs2)).setCell ⟨q, 9, none⟩ (.string mk)).setCell ⟨q, 10, none⟩ (.int .i64 (k : Int))).setCell ⟨q, 11, none⟩ (.int .i64 (N : Int))).setCell ⟨q, 12, none⟩ (.string (piece S2 1024 k))).drew) q [.int .i64 4, .int .i64 c.id, .int .i64 (v : Int), .int .i64 c.ballot, .int .i64 gen, .int .i64 bs2, .int .i64 0, .int .i64 0, .int .i64 0, .string mk, .int .i64 (k : Int), .int .i64 (N : Int), .string (piece S2 1024 k), .slice none 0 0] 30 := ((((((M6.set 4 _).set 5 _).set 9 _).set 10 _).set 11 _).set 12 _).drew
          have C7 : CoordAt (((((((w6.setCell ⟨q, 4, none⟩ (.int .i64 gen)).setCell ⟨q, 5, none⟩ (.int .i64 bs2)).setCell ⟨q, 9, none⟩ (.string mk)).setCell ⟨q, 10, none⟩ (.int .i64 (k : Int))).setCell ⟨q, 11, none⟩ (.int .i64 (N : Int))).setCell ⟨q, 12, none⟩ (.string (piece S2 1024 k))).drew) b _ := ⟨C6.1.touch TS7 (fun (e : b = q) => by omega), C6.2⟩
          have Q7 := Q6.touch TS7 (fun (e : pk = q) => by omega)
          have R7 := row_touch R6 TS7 (fun g' hg' (e : g' = q) => hgq (by simp [Value.ownBlock] at hg'; omega))
          have V7 := row_touch V6 TS7 (fun g' hg' (e : g' = q) => by have := HVlt.out g' hg'; have := Hq.out; omega)
          have K7 := K6.touch TS7 (fun (e : kb = q) => by omega) (fun (e : mb = q) => by omega)
          have T7 := ((((((T6.set (p := ⟨q, 4, none⟩) (Or.inr hwq) (.int .i64 gen)).set (p := ⟨q, 5, none⟩) (Or.inr hwq) (.int .i64 bs2)).set (p := ⟨q, 9, none⟩) (Or.inr hwq) (.string mk)).set (p := ⟨q, 10, none⟩) (Or.inr hwq) (.int .i64 (k : Int))).set (p := ⟨q, 11, none⟩) (Or.inr hwq) (.int .i64 (N : Int))).set (p := ⟨q, 12, none⟩) (Or.inr hwq) (.string (piece S2 1024 k))).drew
          clear x6 x7 k1 k3 m4 m5 m9 m10 m11 m12 g4 g5 g9 g10 g11 g12 y0 y1 y2
          go_wp2_with fail
          go_meet
          exact ⟨Lib.hid M7, Lib.hid C7, Lib.hid Q7, Lib.hid R7, Lib.hid V7, Lib.hid K7, Lib.hid T7⟩
        case rest =>
          obtain ⟨HM7, HC7, HQ7, HR7, HV7, HK7, HT7⟩ := hcut
          clear x6 x7 k1 k3 m4 m5 m9 m10 m11 m12 g4 g5 g9 g10 g11 g12 y0 y1 y2 HF6
          obtain ⟨w7, hw7⟩ : ∃ w7, w7 = wc := ⟨_, rfl⟩
          rw [← hw7] at HM7 HC7 HQ7 HR7 HV7 HK7 HT7 ⊢
          clear hw7
          have M7 := HM7.out
          have n0 : w7.cell? ⟨q, 0, none⟩ = some (.int .i64 4) := M7.cell 0
          have n1 : w7.cell? ⟨q, 1, none⟩ = some (.int .i64 c.id) := M7.cell 1
          have n2 : w7.cell? ⟨q, 2, none⟩ = some (.int .i64 (v : Int)) := M7.cell 2
          have n3 : w7.cell? ⟨q, 3, none⟩ = some (.int .i64 c.ballot) := M7.cell 3
          have n4 : w7.cell? ⟨q, 4, none⟩ = some (.int .i64 gen) := M7.cell 4
          have n5 : w7.cell? ⟨q, 5, none⟩ = some (.int .i64 bs2) := M7.cell 5
          have n6 : w7.cell? ⟨q, 6, none⟩ = some (.int .i64 0) := M7.cell 6
          have n7 : w7.cell? ⟨q, 7, none⟩ = some (.int .i64 0) := M7.cell 7
          have n8 : w7.cell? ⟨q, 8, none⟩ = some (.int .i64 0) := M7.cell 8
          have n9 : w7.cell? ⟨q, 9, none⟩ = some (.string mk) := M7.cell 9
          have n10 : w7.cell? ⟨q, 10, none⟩ = some (.int .i64 (k : Int)) := M7.cell 10
          have n11 : w7.cell? ⟨q, 11, none⟩ = some (.int .i64 (N : Int)) := M7.cell 11
          have n12 : w7.cell? ⟨q, 12, none⟩ = some (.string (piece S2 1024 k)) := M7.cell 12
          have n13 : w7.cell? ⟨q, 13, none⟩ = some (.slice none 0 0) := M7.cell 13
          have hsz7 := HT7.out.size
          clear M7 HM7
          obtain ⟨oa, oc, rfl⟩ := row_shape HV7.out
          go_wp2_with (at_builtin; refine append_own1 rfl _ _ 40 rfl w.heap.size 30 14 144 Tryz.underlying40 _ info_msg rfl (by decide) _ _ _ rfl HV7.out w7.heap.size rfl [.int .i64 4, .int .i64 c.id, .int .i64 (v : Int), .int .i64 c.ballot, .int .i64 gen, .int .i64 bs2, .int .i64 0, .int .i64 0, .int .i64 0, .string mk, .int .i64 (k : Int), .int .i64 (N : Int), .string (piece S2 1024 k), .slice none 0 0] rfl rfl (by simp [Value.oneCell']) ?c1 ?c2 ?c3 ?_)
          case c1 => unfold maxLen; omega
          case c2 => omega
          case c3 => first | omega | (simp; omega)
          intro v8 w8 hown hgr
          clear n0 n1 n2 n3 n4 n5 n6 n7 n8 n9 n10 n11 n12 n13
          have hlt8 := fun g' (hg' : (Value.slice oa k oc).ownBlock = some g') => row_lt HV7.out hg'
          have V8 : w8.ownsRow w.heap.size 30 14 v8 (k + 1) (msgsV (partsL c.id v c.ballot gen bs2 mk S2 (k + 1))) := by
            rw [partsL_succ, msgsV_append, ← HN.out]
            exact hown
          have C8 : CoordAt w8 b _ := ⟨blk_grown (HC7.out.1.alloc _) hgr (row_ne HV7.out HC7.out.1 (by decide)), HC7.out.2⟩
          have Q8 := blk_grown (HQ7.out.alloc (.cells [.int .i64 4, .int .i64 c.id, .int .i64 (v : Int), .int .i64 c.ballot, .int .i64 gen, .int .i64 bs2, .int .i64 0, .int .i64 0, .int .i64 0, .string mk, .int .i64 (k : Int), .int .i64 (N : Int), .string (piece S2 1024 k), .slice none 0 0].toArray 30)) hgr (row_ne HV7.out HQ7.out (by decide))
          have R8 := row_grown (HR7.out.alloc (.cells [.int .i64 4, .int .i64 c.id, .int .i64 (v : Int), .int .i64 c.ballot, .int .i64 gen, .int .i64 bs2, .int .i64 0, .int .i64 0, .int .i64 0, .string mk, .int .i64 (k : Int), .int .i64 (N : Int), .string (piece S2 1024 k), .slice none 0 0].toArray 30)) hgr (fun g' hg' => row_ne_row HR7.out HV7.out (by decide) hg')
          have T8 : Touch (fun k => k = b ∨ k = mb) w w8 := touch_grown (HT7.out.alloc (.cells [.int .i64 4, .int .i64 c.id, .int .i64 (v : Int), .int .i64 c.ballot, .int .i64 gen, .int .i64 bs2, .int .i64 0, .int .i64 0, .int .i64 0, .string mk, .int .i64 (k : Int), .int .i64 (N : Int), .string (piece S2 1024 k), .slice none 0 0].toArray 30)) hgr (fun g' hg' => Or.inr (hlt8 g' hg').1)
          have HV8 := Lib.hid V8
          have HC8 := Lib.hid C8
          have HQ8 := Lib.hid Q8
          have HR8 := Lib.hid R8
          have HT8 := Lib.hid T8
          have T8b : Touch (fun j => (Value.slice oa k oc).ownBlock = some j) w7 w8 := touch_grown ((Touch.refl _ _).alloc _) hgr (fun g' hg' => Or.inl hg')
          have hnr8 := HK7.out.ne_row HV7.out (by decide)
          have HK8 := Lib.hid (HK7.out.touch T8b hnr8.1 hnr8.2)
          have x6 : w8.cell? ⟨b, 12 + v * 8 + 6, none⟩ = some (.int .i64 (k : Int)) := C8.peerS hvq 6 (by omega)
          have x7 : w8.cell? ⟨b, 12 + v * 8 + 7, none⟩ = some (.pointer (some ⟨pk, 0, none⟩)) := C8.peerS hvq 7 (by omega)
          have k3 : w8.cell? ⟨pk, 3, none⟩ = some (.slice (some ⟨g, 0, none⟩) N pc) := Q8.cell 3
          have f6 := C8.1.free (12 + v * 8 + 6)
          have hl8 := C8.1.lt
          have hN0 : ¬ (N : Int) = 0 := by omega
          have hNb : ((N : Int) == 0) = false := by rw [beq_eq_false_iff_ne]; omega
          clear V8 C8 Q8 R8 T8 T8b hnr8 hown hgr hlt8 HC7 HQ7 HR7 HV7 HK7 HT7 hsz7
          go_wp2_with fail
          go_region
          have hcast : (((k + 1) % N : Nat) : Int) = ((k : Int) + 1) % (N : Int) := by first | exact Int.natCast_emod (k + 1) N | exact Int.ofNat_emod (k + 1) N
          rw [← hcast]
          obtain ⟨cu, hcu⟩ : ∃ cu, cu = (((k + 1) % N : Nat) : Int) := ⟨_, rfl⟩
          rw [← hcu]
          have Hcu := Lib.hid hcu
          clear hcu hcast
          have TS9 : Touch (fun j => j = b) w8 (w8.setCell ⟨b, 12 + v * 8 + 6, none⟩ (.int .i64 cu)) := touchOne_set (Touch.refl _ _) _
          have hn8 : v8.ownBlock ≠ some b := row_ne HV8.out HC8.out.1 (by decide)
          have hnp8 : (Value.slice (some ⟨g, 0, none⟩) N pc).ownBlock ≠ some b := row_ne HR8.out HC8.out.1 (by decide)
          have C9 : CoordAt (w8.setCell ⟨b, 12 + v * 8 + 6, none⟩ (.int .i64 cu)) b { c with peers := peersVals (ps.set v { p with pack := .pointer (some ⟨pk, 0, none⟩), cursor := cu }) } := HC8.out.setPeer2 hvq 6 (by omega) (.int .i64 cu) { p with pack := .pointer (some ⟨pk, 0, none⟩), cursor := cu } rfl
          have V9 := row_touch HV8.out TS9 (fun g' hg' e => hn8 (by rw [hg', e]))
          have R9 := row_touch HR8.out TS9 (fun g' hg' e => hnp8 (by rw [hg', e]))
          have Q9 := HQ8.out.touch TS9 (fun (e : pk = b) => by omega)
          have K9 := HK8.out.touch TS9 (fun (e : kb = b) => hkbb e) (fun (e : mb = b) => hmbb e)
          have T9 := HT8.out.trans (TS9.mono (fun j _ e => Or.inl e))
          have HF9 := Lib.hid (And.intro V9.drew (And.intro C9.drew (And.intro Q9.drew (And.intro R9.drew (And.intro (K9.below ((Below.refl _ _).drew)) T9.drew)))))
          clear TS9 hn8 hnp8 C9 V9 R9 Q9 K9 T9 HV8 HC8 HQ8 HR8 HK8 HT8 x6 x7 k3 f6 hl8 hN0 hNb
          generalize (w8.setCell ⟨b, 12 + v * 8 + 6, none⟩ (.int .i64 cu)).drew = w9 at HF9 ⊢
          go_wp2_with fail
          go_roundw
          case rel => exact ⟨k + 1, by go_num, by omega, Lib.hid HF9.out.1, Lib.hid (by rw [← Hcu.out]; exact HF9.out.2.1), Lib.hid HF9.out.2.2.1, Lib.hid HF9.out.2.2.2.1, Lib.hid HF9.out.2.2.2.2.1, Lib.hid HF9.out.2.2.2.2.2⟩
          case measure => simp [intOf]; omega
      · obtain rfl : k = N := by omega
        rw [Nat.mod_self] at HC
        have hLn : Bk2.length ≤ Bk.length + 120020 := by have := HL2.out; omega
        go_wp2_with fail
        go_ret
        exact ⟨_, bs2, S2, pk, Bk2, rfl, ⟨hSz, HBas.out⟩, by rw [← HN.out]; exact HV.out, HC.out, HK.out, hLn, HT.out⟩
end Go.Proofs.YtaemlplcjjbamaaGreatDoor
