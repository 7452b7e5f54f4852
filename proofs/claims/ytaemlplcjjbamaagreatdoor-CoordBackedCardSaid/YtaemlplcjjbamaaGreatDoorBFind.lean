/- The walks of press's finder: slot, alike, put, longest. Cond -/
import Derived.Test.YtaemlplcjjbamaaGreatDoorBDeltaPlain
import Derived.Test.YtaemlplcjjbamaaGreatDoorBMarked
namespace Go.Proofs.YtaemlplcjjbamaaGreatDoor
open Go.Lib (hid)
set_option maxRecDepth 100000
set_option maxHeartbeats 8000000
open Go Go.RowKit
set_option linter.unusedVariables false
variable {P : Program} {S : List UInt8} {args : Array Value} {f gp i n : Nat} {v : Value} {w w' : World}
theorem zBg {f : FuncId} 
  (h : Calls P f args (w.drewN n) fun e w' => e = .returned v ∧ ∃ m, w' = (w.drewN n).drewN m) : Calls P f args (w.drewN n) fun e w'' => e = .returned v ∧ ∃ m, w'' = w.drewN m :=
 h.mono fun _ _ ⟨he, m, hm⟩ => ⟨he, n + m, by rw [hm, World.drewN_drewN]⟩
def iv (n : Nat) : Value := .int .i64 (n : Int)
def zCc (S : List UInt8) (F : Fd) (gp : Nat) : List Value := .string (ba S) :: (F.head.map iv ++ [.slice (some ⟨gp, 0, none⟩) S.length S.length, iv F.done])
structure FdAt (w : World) (f gp : Nat) (S : List UInt8) (F : Fd) : Prop where
 blk : Blk w f (zCc S F gp) 225
 row : Blk w gp (F.prev.map iv) 3
 ok : F.Ok S
theorem FdAt.below {F : Fd} (h : FdAt w f gp S F) (hb : Below w.heap.size w w') : FdAt w' f gp S F := ⟨h.blk.below hb, h.row.below hb, h.ok⟩
theorem FdAt.text {F : Fd} (h : FdAt w f gp S F) : w.cell? ⟨f, 0, none⟩ = some (.string (ba S)) := h.blk.cell 0
theorem zEO {F : Fd} (hF : F.head.length = 4096) (k : Nat) (hk : k < 4096) : (zCc S F gp)[1 + k]? = some (iv (F.head.getD k 0)) := by
 unfold zCc
 rw [Nat.add_comm 1 k, List.getElem?_cons_succ, List.getElem?_append_left (by rw [List.length_map]; omega), List.getElem?_map, List.getD_eq_getElem?_getD, List.getElem?_eq_getElem (by omega)]
 rfl
theorem zEU {F : Fd} (hF : F.head.length = 4096) : (zCc S F gp)[4097]? = some (.slice (some ⟨gp, 0, none⟩) S.length S.length) ∧ (zCc S F gp)[4098]? = some (iv F.done) := by
 unfold zCc
 have hm : (F.head.map iv).length = 4096 := by rw [List.length_map]; exact hF
 constructor
 ·rw [show 4097 = 4096 + 1 from rfl, List.getElem?_cons_succ, List.getElem?_append_right (by omega), hm]; rfl
 ·rw [show 4098 = 4097 + 1 from rfl, List.getElem?_cons_succ, List.getElem?_append_right (by omega), hm]; rfl
theorem FdAt.head {F : Fd} (h : FdAt w f gp S F) (k : Nat) (hk : k < 4096) : w.cell? ⟨f, 1 + k, none⟩ = some (.int .i64 ((F.head.getD k 0 : Nat) : Int)) := by
 rw [h.blk.cell, zEO h.ok.head k hk]; rfl
theorem FdAt.prevc {F : Fd} (h : FdAt w f gp S F) : w.cell? ⟨f, 4097, none⟩ = some (.slice (some ⟨gp, 0, none⟩) S.length S.length) := by
 rw [h.blk.cell, (zEU h.ok.head).1]
theorem FdAt.donec {F : Fd} (h : FdAt w f gp S F) : w.cell? ⟨f, 4098, none⟩ = some (.int .i64 ((F.done : Nat) : Int)) := by
 rw [h.blk.cell, (zEU h.ok.head).2]; rfl
theorem FdAt.rowc {F : Fd} (h : FdAt w f gp S F) (k : Nat) (hk : k < S.length) : w.cell? ⟨gp, k, none⟩ = some (.int .i64 ((F.prev.getD k 0 : Nat) : Int)) := by
 have hl : k < F.prev.length := by rw [h.ok.prev]; exact hk
 rw [h.row.cell, List.getElem?_map, List.getD_eq_getElem?_getD, List.getElem?_eq_getElem hl]; rfl
theorem fdVals_set (S : List UInt8) (F : Fd) (gp k v d : Nat) (hF : F.head.length = 4096) (hk : k < 4096) (p : List Nat) :
  ((zCc S F gp).set (1 + k) (.int .i64 (v : Int))).set 4098 (.int .i64 (d : Int)) = zCc S ⟨F.head.set k v, p, d⟩ gp := by
 unfold zCc
 rw [Nat.add_comm 1 k, List.set_cons_succ, show 4098 = 4097 + 1 from rfl, List.set_cons_succ]
 congr 1
 have hm : (F.head.map iv).length = 4096 := by rw [List.length_map]; exact hF
 rw [List.set_append_left _ _ (by omega), List.set_append_right _ _ (by rw [List.length_set]; omega), List.length_set, hm, List.map_set]
 rfl
theorem FdAt.ne {F : Fd} (h : FdAt w f gp S F) : f ≠ gp := h.blk.ne h.row (by decide)
def InFd (f gp : Nat) : Nat → Prop := fun k => k = f ∨ k = gp
theorem put1_of {F : Fd} (h : F.Ok S) (hd : F.done < S.length)
  (hB : Blk w f (((zCc S F gp).set (1 + pslot S F.done) (.int .i64 ((F.done : Int) + 1))).set 4098 (.int .i64 ((F.done : Int) + 1))) 225)
  (hR : Blk w gp ((F.prev.map iv).set F.done (.int .i64 ((F.head.getD (pslot S F.done) 0 : Nat) : Int))) 3) : FdAt w f gp S (F.put1 S) := by
 refine ⟨?_, ?_, Fd.put1_ok h hd⟩
 ·have h1 := hB
  rw [show ((F.done : Int) + 1) = ((F.done + 1 : Nat) : Int) from rfl, fdVals_set S F gp _ _ _ h.head (zEz S F.done) (F.prev.set F.done (F.head.getD (pslot S F.done) 0))] at h1
  exact h1
 ·have e : (F.prev.map iv).set F.done (.int .i64 ((F.head.getD (pslot S F.done) 0 : Nat) : Int)) = (F.put1 S).prev.map iv := by
   show _ = (F.prev.set F.done _).map iv
   rw [List.map_set]; rfl
  rw [e] at hR
  exact hR
theorem putTo_step {F : Fd} {t : Nat} (h : F.done < t ∧ F.done + 4 ≤ S.length) : F.putTo S t = (F.put1 S).putTo S t := by
 unfold Fd.putTo
 show F.puts S (min t (S.length - 3) - F.done) = (F.put1 S).puts S (min t (S.length - 3) - (F.done + 1))
 rw [show min t (S.length - 3) - F.done = (min t (S.length - 3) - (F.done + 1)) + 1 by omega]
 rfl
theorem zGS {F : Fd} {t : Nat} (h : ¬ (F.done < t ∧ F.done + 4 ≤ S.length)) : F.putTo S t = F := by
 unfold Fd.putTo
 rw [show min t (S.length - 3) - F.done = 0 by omega]
 rfl
def slotL (l : List UInt8) : Nat := ((l.getD 0 0).toNat + (l.getD 1 0).toNat * 256 + (l.getD 2 0).toNat * 65536 + (l.getD 3 0).toNat * 16777216) * 2654435761 % 4294967296 / 1048576
theorem zFH (S : List UInt8) (i : Nat) : slotL (S.drop i) = pslot S i := by
 unfold slotL pslot
 simp only [List.getD_eq_getElem?_getD, List.getElem?_drop, Nat.add_zero]
theorem ba_at {l : List UInt8} (h : i < (ba l).size) : (ba l)[i]'h = l.getD i 0 := by
 have h1 : i < l.length := by rw [zAl] at h; exact h
 have h2 : (ba l)[i]'h = l[i]'h1 := rfl
 rw [h2, List.getD_eq_getElem?_getD, List.getElem?_eq_getElem h1]
 rfl
theorem zGy (i x y : Nat) (hx : x < 2 ^ i) (hi : (y * 2 ^ i) < 4294967296) (hx2 : x < 4294967296) : bits .or .u32 (x : Int) ((y * 2 ^ i : Nat) : Int) = ((x + y * 2 ^ i : Nat) : Int) := by
 rw [u32_or_nat _ _ hx2 hi, Nat.or_comm, nat_join i (y * 2 ^ i) x (Nat.mul_mod_left _ _) hx, Nat.add_comm]
theorem slot_any (l : List UInt8) (w : World) (hl : 4 ≤ l.length) :
  Calls Tryz.prog 185 #[.string (ba l)] w fun e w' => e = .returned (.int .i64 (slotL l : Nat)) ∧ ∃ n, w' = w.drewN n := by
 have hs := zAl l
 have h0 : 0 < (ba l).size := by omega
 have h1 : 1 < (ba l).size := by omega
 have h2 : 2 < (ba l).size := by omega
 have h3 : 3 < (ba l).size := by omega
 have i0 : (0 : Int) < ((ba l).size : Int) := by omega
 have i1 : (1 : Int) < ((ba l).size : Int) := by omega
 have i2 : (2 : Int) < ((ba l).size : Int) := by omega
 have i3 : (3 : Int) < ((ba l).size : Int) := by omega
 have b0 := UInt8.toNat_lt (ba l)[0]
 have b1 := UInt8.toNat_lt (ba l)[1]
 have b2 := UInt8.toNat_lt (ba l)[2]
 have b3 := UInt8.toNat_lt (ba l)[3]
 have Hs := hid hs
 clear hs
 go_enter Tryz.func185, Tryz.ntmps185
 go_wp2
 go_quiet (fail)
 go_wp2
 go_ret
 refine ⟨zAk ?_, nq, rfl⟩
 rw [show slotL l = ((ba l)[0].toNat + (ba l)[1].toNat * 256 + (ba l)[2].toNat * 65536 + (ba l)[3].toNat * 16777216) * 2654435761 % 4294967296 / 1048576 by
  unfold slotL; rw [ba_at h0, ba_at h1, ba_at h2, ba_at h3]]
 generalize (ba l)[0].toNat = x0 at b0 ⊢
 generalize (ba l)[1].toNat = x1 at b1 ⊢
 generalize (ba l)[2].toNat = x2 at b2 ⊢
 generalize (ba l)[3].toNat = x3 at b3 ⊢
 have e1 : bits BinOp.or IntKind.u32 (x0 : Int) ((x1 : Int) * 256) = ((x0 + x1 * 2 ^ 8 : Nat) : Int) := zGy 8 x0 x1 (by omega) (by omega) (by omega)
 have e2 : bits BinOp.or IntKind.u32 ((x0 + x1 * 2 ^ 8 : Nat) : Int) ((x2 : Int) * 65536) = ((x0 + x1 * 2 ^ 8 + x2 * 2 ^ 16 : Nat) : Int) := zGy 16 _ x2 (by omega) (by omega) (by omega)
 have e3 : bits BinOp.or IntKind.u32 ((x0 + x1 * 2 ^ 8 + x2 * 2 ^ 16 : Nat) : Int) ((x3 : Int) * 16777216) = ((x0 + x1 * 2 ^ 8 + x2 * 2 ^ 16 + x3 * 2 ^ 24 : Nat) : Int) := zGy 24 _ x3 (by omega) (by omega) (by omega)
 rw [e1, e2, e3]
 omega
theorem alike_any (S : List UInt8) (a b n : Nat) (w : World) (hab : a ≤ b) (hb : b ≤ S.length) (hS : S.length ≤ 1099511627776) (hn : n ≤ 1000) :
  Calls Tryz.prog 186 #[.string (ba S), .int .i64 (a : Int), .int .i64 (b : Int), .int .i64 (n : Int)] w fun e w' => e = .returned (.int .i64 (lcp n (S.drop a) (S.drop b) : Nat)) ∧ ∃ m, w' = w.drewN m := by
 have hsz := zAl S
 go_enter Tryz.func186, Tryz.ntmps186
 go_wp2
 go_loopw [9] (fun kv wr => ∃ k : Nat, kv = .int .i64 (k : Int) ∧ k ≤ n ∧ b + k ≤ S.length ∧ (∃ m, wr = w.drewN m) ∧ Hid (k + lcp (n - k) (S.drop (a + k)) (S.drop (b + k)) = lcp n (S.drop a) (S.drop b))) (fun kv _ => n - (intOf kv).toNat)
 case atStart => exact ⟨0, rfl, Nat.zero_le _, hb, ⟨0, rfl⟩, hid (by rw [Nat.zero_add, Nat.sub_zero, Nat.add_zero, Nat.add_zero])⟩
 case round =>
  obtain ⟨k, rfl, hk, hbk, ⟨m, rfl⟩, HL⟩ := hrel
  obtain ⟨q, hq⟩ : ∃ q, q = b + k := ⟨_, rfl⟩
  obtain ⟨p, hp⟩ : ∃ p, p = a + k := ⟨_, rfl⟩
  have hw1 : IntKind.i64.wrap ((b : Int) + (k : Int)) = (q : Int) := by rw [IntKind.wrap_i64]; omega
  have hw2 : IntKind.i64.wrap ((a : Int) + (k : Int)) = (p : Int) := by rw [IntKind.wrap_i64]; omega
  have hpq : p ≤ q := by omega
  have Hq := hid hq
  have Hp := hid hp
  rw [← hq, ← hp] at HL
  have hq1 : q ≤ S.length := by omega
  clear hq hp hbk
  have hnext := hid (show b + (k + 1) = q + 1 ∧ a + (k + 1) = p + 1 by have := Hq.out; have := Hp.out; omega)
  by_cases h1 : k < n
  ·by_cases h2 : q < S.length
   ·have hp2 : p < S.length := by omega
    have e1 : S.drop p = S[p] :: S.drop (p + 1) := List.drop_eq_getElem_cons hp2
    have e2 : S.drop q = S[q] :: S.drop (q + 1) := List.drop_eq_getElem_cons h2
    have hl : lcp (n - k) (S.drop p) (S.drop q) = if S[p] = S[q] then lcp (n - (k + 1)) (S.drop (p + 1)) (S.drop (q + 1)) + 1 else 0 := by
     rw [e1, e2, show n - k = (n - (k + 1)) + 1 by omega]; rfl
    have Hl := hid hl
    clear hl e1 e2
    by_cases h3 : S[p] = S[q]
    ·have HL2 := hid (show (k + 1) + lcp (n - (k + 1)) (S.drop (a + (k + 1))) (S.drop (b + (k + 1))) = lcp n (S.drop a) (S.drop b) by
      rw [← HL.out, Hl.out, if_pos h3, hnext.out.1, hnext.out.2]; omega)
     have h4 : ((((ba S)[p]'(by omega)).toNat : Int) == (((ba S)[q]'(by omega)).toNat : Int)) = true := by
      show ((S[p].toNat : Int) == (S[q].toNat : Int)) = true
      rw [h3]; simp
     clear h3
     go_wp2
     go_quiet (fail)
     go_wp2
     go_roundw
     case rel => exact ⟨k + 1, by go_num, by omega, by have := hnext.out.1; omega, ⟨_, rfl⟩, HL2⟩
     case measure => simp [intOf]; omega
    ·have HL2 := hid (show k = lcp n (S.drop a) (S.drop b) by rw [← HL.out, Hl.out, if_neg h3]; omega)
     have h4 : ((((ba S)[p]'(by omega)).toNat : Int) == (((ba S)[q]'(by omega)).toNat : Int)) = false := by
      show ((S[p].toNat : Int) == (S[q].toNat : Int)) = false
      rw [beq_eq_false_iff_ne]
      intro h
      exact h3 (UInt8.toNat_inj.1 (by omega))
     clear h3
     go_wp2
     go_quiet (fail)
     go_wp2
     go_ret
     exact ⟨zAk (by rw [← HL2.out]), _, World.drewN_drewN _ _ _⟩
   ·have HL2 := hid (show k = lcp n (S.drop a) (S.drop b) by
     rw [← HL.out, show S.drop q = [] from List.drop_eq_nil_of_le (by omega)]
     have := (lcp_le (n - k) (S.drop p) []).2
     simp at this
     omega)
    go_wp2
    go_quiet (fail)
    go_wp2
    go_ret
    exact ⟨zAk (by rw [← HL2.out]), _, World.drewN_drewN _ _ _⟩
  ·have HL2 := hid (show k = lcp n (S.drop a) (S.drop b) by
    rw [← HL.out, show n - k = 0 by omega]; rfl)
   go_wp2
   go_quiet (fail)
   go_wp2
   go_ret
   exact ⟨zAk (by rw [← HL2.out]), _, World.drewN_drewN _ _ _⟩
def fdDone (f : Nat) (w : World) : Int := match w.cell? ⟨f, 4098, none⟩ with | some (.int _ d) => d | _ => 0
theorem FdAt.doneAt {F : Fd} (h : FdAt w f gp S F) : fdDone f w = (F.done : Int) := by
 unfold fdDone; rw [h.donec]
theorem put_any (f gp : Nat) (S : List UInt8) (F : Fd) (t : Nat) (w : World) (h : FdAt w f gp S F) (hS : S.length ≤ 1099511627776) (ht : t ≤ S.length) :
  Calls Tryz.prog 184 #[.pointer (some ⟨f, 0, none⟩), .int .i64 (t : Int)] w fun e w' => e = .returned (.tuple #[]) ∧ FdAt w' f gp S (F.putTo S t) ∧ Touch (InFd f gp) w w' := by
 have hsz := zAl S
 have H := hid h
 clear h
 go_enter Tryz.func184, Tryz.ntmps184
 go_wp2
 go_loopw [4] (fun _ wr => ∃ F' : Fd, Hid (FdAt wr f gp S F') ∧ Hid (F'.putTo S t = F.putTo S t) ∧ Hid (Touch (InFd f gp) w wr)) (fun _ wr => (t - fdDone f wr).toNat)
 case atStart => exact ⟨F, H, hid rfl, hid (Touch.refl _ _)⟩
 case round =>
  obtain ⟨F', HF, HE, HT⟩ := hrel
  clear H
  have hd := HF.out.donec
  have hx := HF.out.text
  have Hm := hid HF.out.doneAt
  have hdl := HF.out.ok.done
  obtain ⟨d, hdd⟩ : ∃ d, d = F'.done := ⟨_, rfl⟩
  rw [← hdd] at hd hdl
  have Hd := hid hdd
  clear hdd
  obtain ⟨q, hq⟩ : ∃ q, q = d + 4 := ⟨_, rfl⟩
  have hw1 : IntKind.i64.wrap ((d : Int) + 4) = (q : Int) := by rw [IntKind.wrap_i64]; omega
  have Hq := hid hq
  by_cases h1 : d < t
  ·by_cases h2 : q ≤ S.length
   ·have HP := hid (show (F'.put1 S).putTo S t = F.putTo S t by rw [← HE.out]; exact (putTo_step (by rw [← Hd.out]; have := Hq.out; omega)).symm)
    clear hq
    go_upto_region 0 with fail
    go_quiet (fail)
    have HF1 := hid (HF.out.below (below_drewN (Below.refl _ _) nq))
    have HT1 := hid (HT.out.drewN nq)
    have hm1 : fdDone f (wr.drewN nq) = (d : Int) := by rw [HF1.out.doneAt, Hd.out]
    generalize wr.drewN nq = w1 at HF1 HT1 ⊢
    have hx1 := HF1.out.text
    have hd1 := HF1.out.donec
    rw [← Hd.out] at hd1
    have hex := hid (show (ba S).extract d S.length = ba (S.drop d) by rw [zBl, List.take_of_length_le (by rw [List.length_drop]; omega)])
    have HSl := hid (fun n => (slot_any (S.drop d) (w1.drewN n) (by rw [List.length_drop]; have := Hq.out; omega)))
    clear hd hx HF HT
    go_upto_region 2 with fail
    go_quiet ((go_at_call 185; rw [hex.out]; exact zBg (HSl.out _)))
    have HF2 := hid (HF1.out.below (below_drewN (Below.refl _ _) nq))
    have HT2 := hid (HT1.out.drewN nq)
    clear hx1 hd1 HF1 HT1 HSl hex
    generalize w1.drewN nq = w2 at HF2 HT2 ⊢
    rw [zFH]
    obtain ⟨s, hs⟩ : ∃ s, s = pslot S d := ⟨_, rfl⟩
    have hs4 : s < 4096 := by rw [hs]; exact zEz S d
    rw [← hs]
    have Hs := hid hs
    have hdS : d < S.length := by have := Hq.out; omega
    have g1 := HF2.out.prevc
    have g2 := HF2.out.donec
    have g3 := HF2.out.head s hs4
    rw [← Hd.out] at g2
    have g4 := HF2.out.rowc d hdS
    have f4 := HF2.out.row.free d
    have l4 := HF2.out.row.lt
    clear hs
    go_upto_region 3 with fail
    have hne := HF2.out.ne
    have hfs : F'.head.getD s 0 = F'.head.getD (pslot S F'.done) 0 := by rw [Hs.out, Hd.out]
    obtain ⟨v, hv⟩ : ∃ v, v = F'.head.getD s 0 := ⟨_, rfl⟩
    rw [← hv] at g3
    have Hv := hid hv
    clear hfs hv
    have hc0 : w2.drew.cell? ⟨f, 4097, none⟩ = some (.slice (some ⟨gp, 0, none⟩) S.length S.length) ∧ w2.drew.cell? ⟨f, 4098, none⟩ = some (.int .i64 (d : Int)) ∧ w2.drew.cell? ⟨f, 1 + s, none⟩ = some (.int .i64 (v : Int)) := ⟨g1, g2, g3⟩
    have hB1 := HF2.out.blk.set_other (a := ⟨gp, d, none⟩) hne (.int .i64 (v : Int))
    have hc1 : (w2.setCell ⟨gp, d, none⟩ (.int .i64 (v : Int))).drew.cell? ⟨f, 4097, none⟩ = some (.slice (some ⟨gp, 0, none⟩) S.length S.length) ∧ (w2.setCell ⟨gp, d, none⟩ (.int .i64 (v : Int))).drew.cell? ⟨f, 4098, none⟩ = some (.int .i64 (d : Int)) ∧ (w2.setCell ⟨gp, d, none⟩ (.int .i64 (v : Int))).drew.cell? ⟨f, 1 + s, none⟩ = some (.int .i64 (v : Int)) :=
     ⟨(hB1.cell 4097).trans ((HF2.out.blk.cell 4097).symm.trans g1), (hB1.cell 4098).trans ((HF2.out.blk.cell 4098).symm.trans g2), (hB1.cell (1 + s)).trans ((HF2.out.blk.cell (1 + s)).symm.trans g3)⟩
    have i4 : (s : Int) < 4096 := by omega
    clear hB1
    go_region_held3 (fun w' => w'.cell? ⟨f, 4097, none⟩ = some (.slice (some ⟨gp, 0, none⟩) S.length S.length) ∧ w'.cell? ⟨f, 4098, none⟩ = some (.int .i64 (d : Int)) ∧ w'.cell? ⟨f, 1 + s, none⟩ = some (.int .i64 (v : Int)))
     (first | with_reducible exact hc0 | with_reducible exact hc1 | go_keep)
     (fail)
    have HB3 := hid ((HF2.out.blk.set_other (a := ⟨gp, d, none⟩) hne (.int .i64 (v : Int))).drew)
    have HR3 := hid ((HF2.out.row.set d (.int .i64 (v : Int))).drew)
    have HT3 := hid ((HT2.out.set (p := ⟨gp, d, none⟩) (Or.inl (Or.inr rfl)) (.int .i64 (v : Int))).drew)
    have HOk := hid HF2.out.ok
    have i5 : w2.cell? ⟨f, 4098, none⟩ = some (.int .i64 (d : Int)) := g2
    have d2 := hc1.2.1
    clear i5 hc0 hc1 g1 g2 g3 g4 f4 l4 HF2 HT2
    generalize (w2.setCell ⟨gp, d, none⟩ (.int .i64 (v : Int))).drew = w3 at HB3 HR3 HT3 d2 ⊢
    have hne2 : 1 + s ≠ 4098 := by omega
    have hwd : IntKind.i64.wrap ((d : Int) + 1) = (d : Int) + 1 := by rw [IntKind.wrap_i64]; omega
    have f3 := HB3.out.free (1 + s)
    have l3 := HB3.out.lt
    have HB4 := hid ((HB3.out.set (1 + s) (.int .i64 ((d : Int) + 1))).drew)
    have hcx : ∃ y, w3.cell? ⟨f, 1 + s, none⟩ = some y := ⟨_, HB3.out.cell (1 + s) |>.trans (zEO HOk.out.head s hs4)⟩
    obtain ⟨y, hy⟩ := hcx
    have hd4 : (w3.setCell ⟨f, 1 + s, none⟩ (.int .i64 ((d : Int) + 1))).drew.cell? ⟨f, 4098, none⟩ = some (.int .i64 (d : Int)) := by
     rw [HB4.out.cell, List.getElem?_set_ne hne2, ← HB3.out.cell]; exact d2
    have hc0 : w3.drew.cell? ⟨f, 4098, none⟩ = some (.int .i64 (d : Int)) := d2
    go_upto_region 4 with fail
    go_region_held3 (fun w' => w'.cell? ⟨f, 4098, none⟩ = some (.int .i64 (d : Int)))
     (first | with_reducible exact hc0 | with_reducible exact hd4 | go_keep)
     (fail)
    have HR4 := hid ((HR3.out.set_other (a := ⟨f, 1 + s, none⟩) (Ne.symm hne) (.int .i64 ((d : Int) + 1))).drew)
    have HT4 := hid ((HT3.out.set (p := ⟨f, 1 + s, none⟩) (Or.inl (Or.inl rfl)) (.int .i64 ((d : Int) + 1))).drew)
    clear hc0 hy y f3 l3 d2 HB3 HR3 HT3
    generalize (w3.setCell ⟨f, 1 + s, none⟩ (.int .i64 ((d : Int) + 1))).drew = w4 at HB4 HR4 HT4 hd4 ⊢
    have f4 := HB4.out.free 4098
    have l4 := HB4.out.lt
    have HB5 := hid (HB4.out.set 4098 (.int .i64 ((d : Int) + 1)))
    have HR5 := hid (HR4.out.set_other (a := ⟨f, 4098, none⟩) (Ne.symm hne) (.int .i64 ((d : Int) + 1)))
    have HT5 := hid (HT4.out.set (p := ⟨f, 4098, none⟩) (Or.inl (Or.inl rfl)) (.int .i64 ((d : Int) + 1)))
    have HF5 := hid (put1_of (w := w4.setCell ⟨f, 4098, none⟩ (.int .i64 ((d : Int) + 1))) (F := F') HOk.out (by rw [← Hd.out]; exact hdS)
     (by rw [← Hd.out, ← Hs.out]; exact HB5.out) (by rw [← Hd.out, ← Hs.out, ← Hv.out]; exact HR5.out))
    clear HB4 HR4 HT4 HB5 HR5 HOk hne hne2
    go_wp2
    go_roundw
    case rel => exact ⟨F'.put1 S, HF5, HP, HT5⟩
    case measure =>
     have h5 := HF5.out.doneAt
     have h6 : (F'.put1 S).done = F'.done + 1 := rfl
     rw [h5, h6, Hm.out, ← Hd.out]
     omega
   ·clear hq
    have HP := hid (show F.putTo S t = F' by rw [← HE.out]; exact zGS (by rw [← Hd.out]; have := Hq.out; omega))
    go_upto_region 0 with fail
    go_quiet (fail)
    go_wp2
    go_end0
    rw [HP.out]
    exact ⟨rfl, HF.out.below (below_drewN (Below.refl _ _) _), HT.out.drewN _⟩
  ·clear hq
   have HP := hid (show F.putTo S t = F' by rw [← HE.out]; exact zGS (by rw [← Hd.out]; have := Hq.out; omega))
   go_upto_region 0 with fail
   go_quiet (fail)
   go_wp2
   go_end0
   rw [HP.out]
   exact ⟨rfl, HF.out.below (below_drewN (Below.refl _ _) _), HT.out.drewN _⟩
theorem zIC (f gp : Nat) (S : List UInt8) (F : Fd) (at_ : Nat) (w : World) (h : FdAt w f gp S F) (hS : S.length ≤ 1099511627776) (ht : at_ ≤ S.length) (hd : F.done ≤ at_) :
  Calls Tryz.prog 157 #[.pointer (some ⟨f, 0, none⟩), .int .i64 (at_ : Int)] w fun e w' => e = .returned (.tuple #[.int .i64 ((F.longest S at_).1.1 : Nat), .int .i64 ((F.longest S at_).1.2 : Nat)]) ∧ FdAt w' f gp S (F.longest S at_).2 ∧ Touch (InFd f gp) w w' := by
 have hsz := zAl S
 have H := hid h
 have hx := h.text
 clear h
 obtain ⟨q, hq⟩ : ∃ q, q = at_ + 4 := ⟨_, rfl⟩
 have hw1 : IntKind.i64.wrap ((at_ : Int) + 4) = (q : Int) := by rw [IntKind.wrap_i64]; omega
 have Hq := hid hq
 by_cases h1 : S.length < q
 ·have HL := hid (show F.longest S at_ = ((0, 0), F) by unfold Fd.longest; rw [if_pos (by rw [← hq]; exact h1)])
  clear hq
  go_enter Tryz.func157, Tryz.ntmps157
  go_wp2
  go_ret2
  rw [HL.out]
  exact ⟨rfl, H.out, Touch.refl _ _⟩
 ·have HP := hid (put_any f gp S F at_ w H.out hS ht)
  have HO := hid (Fd.putTo_ok at_ H.out.ok hd ht)
  have HL := hid (show F.longest S at_ = (if ((F.putTo S at_).chain S at_).2 < 4 then (0, 0) else (F.putTo S at_).chain S at_, F.putTo S at_) by unfold Fd.longest; rw [if_neg (by rw [← hq]; exact h1)])
  clear hq
  go_enter Tryz.func157, Tryz.ntmps157
  go_wp2_with fail
  refine HP.out.mono ?_
  rintro e w1 ⟨rfl, hF1, hT1⟩
  have HF1 := hid hF1
  have HT1 := hid hT1
  generalize F.putTo S at_ = G at HF1 HO HL
  clear hF1 hT1 HP H hx
  have hx := HF1.out.text
  have HSl := hid (fun n => (slot_any (S.drop at_) (w1.drewN n) (by rw [List.length_drop]; have := Hq.out; omega)))
  have hex := hid (show (ba S).extract at_ S.length = ba (S.drop at_) by rw [zBl, List.take_of_length_le (by rw [List.length_drop]; omega)])
  obtain ⟨s, hs⟩ : ∃ s, s = slotL (S.drop at_) := ⟨_, rfl⟩
  have hsp := hs.trans (zFH S at_)
  have hs4 : s < 4096 := by rw [hsp]; exact zEz S at_
  have i4 : (s : Int) < 4096 := by omega
  rw [← hs] at HSl
  have g3 := HF1.out.head s hs4
  obtain ⟨p0, hp0⟩ : ∃ p0, p0 = G.head.getD s 0 := ⟨_, rfl⟩
  rw [← hp0] at g3
  have hp0a : p0 ≤ at_ := by rw [hp0, hsp]; exact Nat.le_trans (HO.out.1.headAt at_) HO.out.2
  have HC0 := hid (show zBm S G.prev at_ (p0 + 1) p0 0 0 = G.chain S at_ by unfold Fd.chain Fd.headAt; rw [hp0, hsp])
  clear hs hsp hp0
  go_upto_region 5 with fail
  go_quiet ((go_at_call 185; rw [hex.out]; exact zBg (HSl.out _)))
  have HF2 := hid (HF1.out.below (below_drewN (Below.refl _ _) nq))
  have HT2 := hid (HT1.out.drewN nq)
  generalize w1.drewN nq = w2 at HF2 HT2 ⊢
  clear HF1 HT1 hx HSl hex g3
  go_wp2
  go_loopw [6, 7, 8] (fun bv sv pv wr => ∃ back size p fu : Nat, bv = .int .i64 (back : Int) ∧ sv = .int .i64 (size : Int) ∧ pv = .int .i64 (p : Int) ∧ p ≤ at_ ∧ p < fu ∧ size ≤ 259 ∧ back ≤ 4096 ∧ Hid (FdAt wr f gp S G) ∧ Hid (Touch (InFd f gp) w wr) ∧ Hid (zBm S G.prev at_ fu p back size = G.chain S at_)) (fun _ _ pv _ => (intOf pv).toNat)
  case atStart => exact ⟨0, 0, p0, p0 + 1, rfl, rfl, rfl, hp0a, Nat.lt_succ_self _, by decide, by decide, HF2, HT2, HC0⟩
  case round =>
   obtain ⟨back, size, p, fu, rfl, rfl, rfl, hpa, hpf, hs9, hb9, HF, HT, HC⟩ := hrel
   clear HF2 HT2 HC0
   obtain ⟨fu, rfl⟩ : ∃ k, fu = k + 1 := ⟨fu - 1, by omega⟩
   have HC1 := hid (show (if 0 < p ∧ at_ - (p - 1) ≤ 4096 then
     if size < lcp 259 (S.drop (p - 1)) (S.drop at_) then zBm S G.prev at_ fu (G.prev.getD (p - 1) 0) (at_ - (p - 1)) (lcp 259 (S.drop (p - 1)) (S.drop at_)) else zBm S G.prev at_ fu (G.prev.getD (p - 1) 0) back size
     else (back, size)) = G.chain S at_ from HC.out)
   clear HC
   by_cases hp : 0 < p
   ·obtain ⟨m, rfl⟩ : ∃ m, p = m + 1 := ⟨p - 1, by omega⟩
    have hx := HF.out.text
    have hpc := HF.out.prevc
    have hrow := HF.out.rowc m (by omega)
    obtain ⟨v, hv⟩ : ∃ v, v = G.prev.getD m 0 := ⟨_, rfl⟩
    rw [← hv] at hrow
    have hvm : v ≤ m := by rw [hv]; exact HF.out.ok.back m
    obtain ⟨d, hd2⟩ : ∃ d, d = at_ - m := ⟨_, rfl⟩
    have hm1 : IntKind.i64.wrap (((m + 1 : Nat) : Int) - 1) = (m : Int) := by rw [IntKind.wrap_i64]; omega
    have hd1 : IntKind.i64.wrap ((at_ : Int) - (m : Int)) = (d : Int) := by rw [IntKind.wrap_i64]; omega
    rw [show m + 1 - 1 = m from rfl, ← hv, ← hd2] at HC1
    have HA := hid (alike_any S m at_ 259 wr (by omega) ht hS (by decide))
    obtain ⟨l, hl⟩ : ∃ l, l = lcp 259 (S.drop m) (S.drop at_) := ⟨_, rfl⟩
    have hl9 : l ≤ 259 := by rw [hl]; exact (lcp_le _ _ _).1
    rw [← hl] at HA HC1
    have Hd2 := hid hd2
    have Hvv := hid hv
    clear hv hl hd2
    by_cases hd4 : d ≤ 4096
    ·have HC2 := hid (show (if size < l then zBm S G.prev at_ fu v d l else zBm S G.prev at_ fu v back size) = G.chain S at_ by have h := HC1.out; rw [if_pos ⟨hp, hd4⟩] at h; exact h)
     clear HC1
     go_wp2_with fail
     refine HA.out.mono ?_
     rintro e w3 ⟨rfl, z, rfl⟩
     have HF3 := hid (HF.out.below (below_drewN (Below.refl _ _) z))
     have HT3 := hid (HT.out.drewN z)
     clear hx hpc hrow HF HT HA
     generalize wr.drewN z = w3 at HF3 HT3 ⊢
     have hx := HF3.out.text
     have hpc := HF3.out.prevc
     have hrow := HF3.out.rowc m (by omega)
     have hvg : G.prev.getD m 0 = v := Hvv.out.symm
     rw [hvg] at hrow
     clear hvg
     by_cases hsl : size < l
     ·have HC3 := hid (show zBm S G.prev at_ fu v d l = G.chain S at_ by have h := HC2.out; rw [if_pos hsl] at h; exact h)
      clear HC2
      go_wp2_with fail
      go_roundw
      case rel => exact ⟨d, l, v, fu, by go_num, by go_num, by go_num, by omega, by omega, hl9, hd4, HF3, HT3, HC3⟩
      case measure => simp [intOf]; omega
     ·have HC3 := hid (show zBm S G.prev at_ fu v back size = G.chain S at_ by have h := HC2.out; rw [if_neg hsl] at h; exact h)
      clear HC2
      go_wp2_with fail
      go_roundw
      case rel => exact ⟨back, size, v, fu, by go_num, by go_num, by go_num, by omega, by omega, hs9, hb9, HF3, HT3, HC3⟩
      case measure => simp [intOf]; omega
    ·have HC2 := hid (show (back, size) = G.chain S at_ by rw [← HC1.out, if_neg (fun h => hd4 h.2)])
     clear HC1
     have HE := hid (show F.longest S at_ = (if size < 4 then (0, 0) else (back, size), G) by rw [HL.out, ← HC2.out])
     by_cases h4 : size < 4
     ·go_wp2
      go_ret2
      rw [HE.out, if_pos h4]
      exact ⟨rfl, HF.out, HT.out⟩
     ·go_wp2
      go_ret2
      rw [HE.out, if_neg h4]
      exact ⟨rfl, HF.out, HT.out⟩
   ·have HC2 := hid (show (back, size) = G.chain S at_ by rw [← HC1.out, if_neg (fun h => hp h.1)])
    clear HC1
    have HE := hid (show F.longest S at_ = (if size < 4 then (0, 0) else (back, size), G) by rw [HL.out, ← HC2.out])
    by_cases h4 : size < 4
    ·go_wp2
     go_ret2
     rw [HE.out, if_pos h4]
     exact ⟨rfl, HF.out, HT.out⟩
    ·go_wp2
     go_ret2
     rw [HE.out, if_neg h4]
     exact ⟨rfl, HF.out, HT.out⟩
end Go.Proofs.YtaemlplcjjbamaaGreatDoor
