/- What a segment holds: wal.load. Conditions: sizes. -/
import Derived.Test.YtaeklleogniimaaGreatDoorWalPut
namespace Go.Proofs.YtaeklleogniimaaGreatDoor
open Go Go.RowKit
set_option linter.unusedVariables false

theorem rd_any (b n : Nat) (S : DSt) (s : ByteArray) (p k : Int) (w : World) (h : DiskAt w b S) (hok : OkP n S.pl) (hn : n ≤ 1000000000) (hp : p ≤ 9223372036854775807) (hk : k ≤ 9223372036854775807) :
    Calls Tryz.prog 147 #[.pointer (some ⟨b, 0, none⟩), .string s, .int .i64 p, .int .i64 k] w fun e w' => e = .returned (.tuple #[.string (S.pl.read s p k).1, .int .i64 (S.pl.read s p k).2]) ∧ Below w.heap.size w w' := by
  obtain ⟨hor, hl, hsm, _⟩ := hok.ready hn
  rw [← read_pl S s p k hor]
  refine (read_any b S s p k w h hor hl (fun f hf => (hsm f hf).1) hp hk).mono ?_
  rintro e w' ⟨rfl, q, rfl⟩
  exact ⟨rfl, below_drewN (Below.refl _ _) q⟩
theorem sz_any (b n : Nat) (S : DSt) (s : ByteArray) (w : World) (h : DiskAt w b S) (hok : OkP n S.pl) (hn : n ≤ 1000000000) :
    Calls Tryz.prog 146 #[.pointer (some ⟨b, 0, none⟩), .string s] w fun e w' => e = .returned (.tuple #[.int .i64 (S.pl.size s).1, .int .i64 (S.pl.size s).2]) ∧ w = w' := by
  obtain ⟨hor, hl, hsm, _⟩ := hok.ready hn
  exact size_any2 b S s w h hor hl
theorem seenAt_small {n : Nat} {P : PS} (hok : OkP n P) (i : Nat) : (seenAt P i).length ≤ 2097152 := by
  unfold seenAt
  cases h : P.files[i]? with
  | none => exact Nat.zero_le _
  | some f => exact (hok.small f (List.mem_of_getElem? h)).1
theorem read_small {n : Nat} {P : PS} (hok : OkP n P) (s : ByteArray) (p k : Int) : (P.read s p k).1.size ≤ 2097152 := by
  unfold PS.read
  split
  · decide
  · split
    · decide
    · rename_i i _
      split
      · decide
      · show (textOf _).size ≤ _
        rw [textOf_size, List.length_take, List.length_drop]
        have := seenAt_small hok i
        omega
theorem size_small {n : Nat} {P : PS} (hok : OkP n P) (s : ByteArray) : 0 ≤ (P.size s).1 ∧ (P.size s).1 ≤ 2097152 := by
  unfold PS.size
  split
  · decide
  · split
    · decide
    · rename_i i _
      show 0 ≤ ((seenI P i : Nat) : Int) ∧ ((seenI P i : Nat) : Int) ≤ 2097152
      have h := seenAt_small hok i
      have e : seenI P i = (seenAt P i).length := by
        unfold seenI seenAt
        cases P.files[i]? <;> rfl
      rw [← e] at h
      omega
/-- what loading leaves in memory -/
def Loaded (b k n : Nat) (w : World) (r : Option LO) (e : Ending) (w' : World) : Prop := match r with
  | none => e = .returned (.tuple #[.pointer none, .slice none 0 0, .bool false]) ∧ Below w.heap.size w w'
  | some o => ∃ lg v, e = .returned (.tuple #[.pointer (some ⟨lg, 0, none⟩), v, .bool o.sealed]) ∧ w.heap.size ≤ lg ∧ LogAt w' lg b k ⟨n, o.e, o.m⟩ ∧ w'.ownsRow w.heap.size 9 1 v o.out.length (strVals o.out) ∧ Below w.heap.size w w'
def cellInt (w : World) (a : Addr) : Nat := (intOf ((w.cell? a).getD undef)).toNat
set_option maxRecDepth 100000 in
set_option maxHeartbeats 2000000 in
theorem load_any (b k mb n q : Nat) (S : DSt) (B : List ByteArray) (w : World) (h : Rg w b k mb S B) (hok : OkP q S.pl) (hq : q ≤ 1000000000) (hn : n < 100000000) (hB : B.length ≤ 1000000000) :
    Calls Tryz.prog 82 #[.pointer (some ⟨b, 0, none⟩), .pointer (some ⟨k, 0, none⟩), .int .i64 n] w (Loaded b k n w (loadP S.pl B n)) := by
  have H := Lib.hid h
  have HN := Lib.hid (fun W => walName_any n W hn)
  have HF := Lib.hid (fun W => walFirst_any n W hn)
  have HZ := Lib.hid (fun W (hb : Below w.heap.size w W) => sz_any b q S (wname n) W (h.dev.below hb) hok hq)
  have hz := size_small hok (wname n)
  have HRd := Lib.hid (fun W (hb : Below w.heap.size w W) => rd_any b q S (wname n) 0 (S.pl.size (wname n)).1 W (h.dev.below hb) hok hq (by omega) (by omega))
  have hrs := read_small hok (wname n) 0 (S.pl.size (wname n)).1
  generalize hR : loadP S.pl B n = R
  unfold loadP at hR
  generalize S.pl.read (wname n) 0 (S.pl.size (wname n)).1 = RD at HRd hrs hR
  generalize S.pl.size (wname n) = SZ at HZ hz HRd hR
  have HR := Lib.hid hR
  clear h hok hR
  by_cases hz0 : SZ.2 = 0
  · by_cases hr0 : RD.2 = 0
    · have HE : Hid (R = some (loadGo B (RD.1.size + 1) ⟨0, firstM n, false, []⟩ RD.1.data.toList)) := Lib.hid (by rw [← HR.out, if_neg (fun h => h hz0), if_neg (fun h => h hr0)])
      obtain ⟨all, re⟩ := RD
      obtain ⟨sz, se⟩ := SZ
      dsimp only at hz0 hr0 hrs hz HZ HRd HE
      subst hz0; subst hr0
      clear HR
      have hfz := firstM_size n
      generalize firstM n = F at HF HE hfz
      go_enter Tryz.func82, Tryz.ntmps82
      go_wp2_with fail
      refine (HN.out _).mono ?_
      rintro e w1 ⟨rfl, hb1⟩
      have HB1 := Lib.hid hb1
      clear hb1
      go_wp2_with fail
      refine (HZ.out _ HB1.out).mono ?_
      rintro e w2 ⟨rfl, rfl⟩
      go_wp2_with fail
      refine (HN.out _).mono ?_
      rintro e w2 ⟨rfl, hb2⟩
      have HB2 := Lib.hid (below_step HB1.out hb2)
      clear hb2
      go_wp2_with fail
      refine (HRd.out _ HB2.out).mono ?_
      rintro e w3 ⟨rfl, hb3⟩
      have HB3 := Lib.hid (below_step HB2.out hb3)
      clear hb3
      go_wp2_with fail
      refine (HF.out _).mono ?_
      rintro e w4 ⟨rfl, hb4⟩
      have HB4 := Lib.hid (below_step HB3.out hb4)
      clear hb4 HN HZ HRd HF HB1 HB2 HB3
      go_wp2_with fail
      have HLg : Hid (LogAt (w4.alloc (.cells #[.pointer (some ⟨b, 0, none⟩), .pointer (some ⟨k, 0, none⟩), .int .i64 n, .int .i64 0, .string F] 209)) w4.heap.size b k ⟨n, 0, F⟩) := Lib.hid (Blk.new w4 (logVals b k ⟨n, 0, F⟩) _)
      have HB5 := Lib.hid (HB4.out.alloc HB4.out.size (.cells #[.pointer (some ⟨b, 0, none⟩), .pointer (some ⟨k, 0, none⟩), .int .i64 n, .int .i64 0, .string F] 209))
      have hlg := HB4.out.size
      generalize w4.alloc (.cells #[.pointer (some ⟨b, 0, none⟩), .pointer (some ⟨k, 0, none⟩), .int .i64 n, .int .i64 0, .string F] 209) = w5 at HLg HB5 ⊢
      generalize w4.heap.size = lg at HLg hlg ⊢
      clear HB4
      go_loopw [13, 14] (fun v sd wr => ∃ (o : LO) (f : Nat), sd = .bool o.sealed ∧ o.e ≤ all.size ∧ o.m.size ≤ 1000 ∧ all.size - o.e < f ∧ o.out.length ≤ o.e ∧ Hid (LogAt wr lg b k ⟨n, o.e, o.m⟩) ∧ Hid (wr.ownsRow w.heap.size 9 1 v o.out.length (strVals o.out)) ∧ Hid (Below w.heap.size w wr) ∧ Hid (R = some (loadGo B f o (all.data.toList.drop o.e)))) (fun _ _ wr => all.size - cellInt wr ⟨lg, 3, none⟩)
      case atStart => exact ⟨⟨0, F, false, []⟩, all.size + 1, rfl, Nat.zero_le _, by show F.size ≤ 1000; omega, by show all.size - 0 < _; omega, Nat.le_refl _, HLg, Lib.hid (World.ownsRow_nil _ _ _ _), HB5, Lib.hid (by rw [List.drop_zero]; exact HE.out)⟩
      case round =>
        obtain ⟨⟨oe, om, sd, out⟩, f, rfl, hoe, hom, hf, hol, HL, HO, HBw, HR⟩ := hrel
        dsimp only at hoe hom hf hol HL HO HR
        obtain ⟨f, rfl⟩ : ∃ f', f = f' + 1 := ⟨f - 1, by omega⟩
        have d3 : wr.cell? ⟨lg, 3, none⟩ = some (.int .i64 oe) := HL.out.cell 3
        have d4 : wr.cell? ⟨lg, 4, none⟩ = some (.string om) := HL.out.cell 4
        have HNx := Lib.hid (fun W (hb : Below w.heap.size w W) => walNext_any k mb B all om oe W (H.out.book.below hb) hoe (by omega) hom hB)
        have hsnd := fun s m => next_sound (B := B) (last := om) (l := all.data.toList.drop oe) (s := s) (m := m)
        have hlg2 := HL.out.lt
        have HBd := Lib.hid (HBw.out.trans ((Below.refl _ wr).drew.mono HBw.out.size))
        cases hN : nextP B om (all.data.toList.drop oe) with
        | none =>
          have HE2 : Hid (R = some ⟨oe, om, sd, out⟩) := Lib.hid (by rw [HR.out, loadGo_end hN])
          rw [hN] at HNx
          clear HR hN hsnd HE
          unfold nextVal at HNx
          go_upto_region 10 with (fail)
          go_region_held3 (fun w' => w'.cell? ⟨lg, 3, none⟩ = some (.int .i64 oe) ∧ w'.cell? ⟨lg, 4, none⟩ = some (.string om))
            (first | exact hk2 | go_keep)
            ((go_at_call 148; refine (HNx.out _ HBd.out).mono ?_; rintro e wn ⟨rfl, hbn⟩; have hk2 : wn.cell? ⟨lg, 3, none⟩ = some (.int .i64 oe) ∧ wn.cell? ⟨lg, 4, none⟩ = some (.string om) := ⟨(hbn.cell (p := ⟨lg, 3, none⟩) hlg2).trans d3, (hbn.cell (p := ⟨lg, 4, none⟩) hlg2).trans d4⟩))
          have HBn := Lib.hid (below_step HBd.out hbn)
          have HLn : Hid (LogAt wn lg b k ⟨n, oe, om⟩) := Lib.hid (Blk.below (w := wr.drew) HL.out hbn)
          have HOn : Hid (wn.ownsRow w.heap.size 9 1 _ out.length (strVals out)) := Lib.hid (ownsRow_below (w := wr.drew) (ownsRow_below HO.out (Below.refl _ wr).drew) hbn)
          clear hbn hk2
          go_wp2_with fail
          go_ret3
          rw [HE2.out]
          exact ⟨lg, _, rfl, hlg, HLn.out, HOn.out, HBn.out⟩
        | some sm =>
          obtain ⟨s, m⟩ := sm
          obtain ⟨_, hm, hs1, hs2, r, hr⟩ := hsnd s m hN
          have hln : all.size - oe = 36 + s.size + r.length := by
            have h := congrArg List.length hr
            rw [List.length_append, recL_length, List.length_drop, size_list] at h
            exact h
          have hmz : m.size = 32 := by rw [hm]; exact markOf_size _ _
          have HR2 := HR
          have HNe := Lib.hid hN
          rw [hN] at HNx
          have HLt : Hid (oe + (36 + s.size) ≤ all.size) := Lib.hid (by omega)
          have HMz : Hid (m.size ≤ 1000) := Lib.hid (by omega)
          have HFl : Hid (all.size - (oe + (36 + s.size)) < f) := Lib.hid (by omega)
          have HD3 := Lib.hid d3
          clear HR hN hsnd HE hm hr
          unfold nextVal at HNx
          go_upto_region 10 with (fail)
          go_region_held3 (fun w' => w'.cell? ⟨lg, 3, none⟩ = some (.int .i64 oe) ∧ w'.cell? ⟨lg, 4, none⟩ = some (.string om))
            (first | exact hk2 | go_keep)
            ((go_at_call 148; refine (HNx.out _ HBd.out).mono ?_; rintro e wn ⟨rfl, hbn⟩; have hk2 : wn.cell? ⟨lg, 3, none⟩ = some (.int .i64 oe) ∧ wn.cell? ⟨lg, 4, none⟩ = some (.string om) := ⟨(hbn.cell (p := ⟨lg, 3, none⟩) hlg2).trans d3, (hbn.cell (p := ⟨lg, 4, none⟩) hlg2).trans d4⟩))
          have HBn := Lib.hid (below_step HBd.out hbn)
          have HLn : Hid (LogAt wn lg b k ⟨n, oe, om⟩) := Lib.hid (Blk.below (w := wr.drew) HL.out hbn)
          have HOn : Hid (wn.ownsRow w.heap.size 9 1 _ out.length (strVals out)) := Lib.hid (ownsRow_below (w := wr.drew) (ownsRow_below HO.out (Below.refl _ wr).drew) hbn)
          clear hbn hk2 d3 d4 HNx HL HO HBw HBd
          have h0 : 0 < s.size := hs1
          have h0i : (0 : Int) < (s.size : Int) := by omega
          have hh := head0_eq s h0
          cases sd with
          | false =>
            by_cases h69 : s[0].toNat = 69
            · have b69 : ((s[0].toNat : Int) == 69) = true := by rw [beq_iff_eq]; omega
              have b83 : ((s[0].toNat : Int) == 83) = false := by rw [beq_eq_false_iff_ne]; omega
              have b82 : ((s[0].toNat : Int) == 82) = false := by rw [beq_eq_false_iff_ne]; omega
              by_cases h1 : s.size = 1
              · have HE3 : Hid (R = some (loadGo B f ⟨oe + (36 + s.size), m, true, out⟩ (all.data.toList.drop (oe + (36 + s.size))))) := Lib.hid (by rw [HR2.out, loadGo_step HNe.out (by unfold lstep; rw [if_pos ⟨by rw [hh]; exact h69, rfl, h1⟩]), List.append_nil, List.drop_drop])
                have h1i : (s.size : Int) = 1 := by omega
                have HLm := HLn
                have HOm := HOn
                have HBm := HBn
                have HOl : Hid (out.length ≤ oe + (36 + s.size)) := Lib.hid (by omega)
                have g3 : wn.frozen? ⟨lg, 3, none⟩ = false := HLm.out.free 3
                have g4 : wn.frozen? ⟨lg, 4, none⟩ = false := HLm.out.free 4
                have e3 : wn.cell? ⟨lg, 3, none⟩ = some (.int .i64 oe) := HLm.out.cell 3
                have e4 : wn.cell? ⟨lg, 4, none⟩ = some (.string om) := HLm.out.cell 4
                have hz1 : ((oe : Nat) : Int) + 37 = ((oe + (36 + s.size) : Nat) : Int) := by omega
                have HLe : Hid (LogAt ((wn.setCell ⟨lg, 3, none⟩ (.int .i64 (((oe : Nat) : Int) + 37))).setCell ⟨lg, 4, none⟩ (.string m)) lg b k ⟨n, oe + (36 + s.size), m⟩) := Lib.hid (by
                  rw [hz1]
                  exact Blk.set (Blk.set HLm.out 3 _) 4 _)
                have hci : cellInt ((wn.setCell ⟨lg, 3, none⟩ (.int .i64 (((oe : Nat) : Int) + 37))).setCell ⟨lg, 4, none⟩ (.string m)) ⟨lg, 3, none⟩ = oe + (36 + s.size) := by
                  unfold cellInt
                  rw [HLe.out.cell 3]
                  rfl
                have HCi := Lib.hid hci
                have HCo : Hid (cellInt wr ⟨lg, 3, none⟩ = oe) := Lib.hid (by unfold cellInt; rw [HD3.out]; rfl)
                have HBe := Lib.hid ((HBm.out.setCell (p := ⟨lg, 3, none⟩) hlg (.int .i64 (((oe : Nat) : Int) + 37))).setCell (p := ⟨lg, 4, none⟩) hlg (.string m))
                have hne : (Value.pointer (some ⟨lg, 0, none⟩)).ownBlock ≠ some 0 ∨ True := Or.inr trivial
                have HOe : Hid (((wn.setCell ⟨lg, 3, none⟩ (.int .i64 (((oe : Nat) : Int) + 37))).setCell ⟨lg, 4, none⟩ (.string m)).ownsRow w.heap.size 9 1 _ out.length (strVals out)) := Lib.hid (row_touch HOm.out (touch1_set (touch1_set (Touch.refl _ wn) _) _) (fun g hg e => row_ne HOm.out HLm.out (by decide) (by rw [← e]; exact hg)))
                clear hz1 hci hne HLm HOm HBm
                go_wp2_with fail
                go_roundw
                case rel => exact ⟨⟨oe + (36 + s.size), m, true, out⟩, f, rfl, HLt.out, HMz.out, HFl.out, HOl.out, HLe, HOe, HBe, HE3⟩
                case measure =>
                  rw [HCi.out, HCo.out]
                  have := HLt.out
                  omega
              · have h1i : ((s.size : Int) == 1) = false := by rw [beq_eq_false_iff_ne]; omega
                have HE2 : Hid (R = some ⟨oe, om, false, out⟩) := Lib.hid (by rw [HR2.out, loadGo_stop HNe.out (by unfold lstep; rw [if_neg (fun h => h1 h.2.2), if_neg (fun h => h.elim (fun h => by rw [hh] at h; omega) (fun h => by cases h.2))])])
                go_wp2_with fail
                all_goals first
                  | (exfalso; omega)
                  | (go_ret3; rw [HE2.out]; exact ⟨lg, _, rfl, hlg, HLn.out, HOn.out, HBn.out⟩)
            · have b69 : ((s[0].toNat : Int) == 69) = false := by rw [beq_eq_false_iff_ne]; omega
              by_cases h83 : s[0].toNat = 83
              · have b83 : ((s[0].toNat : Int) == 83) = true := by rw [beq_iff_eq]; omega
                have HE3 : Hid (R = some (loadGo B f ⟨oe + (36 + s.size), m, false, out ++ [s.extract 1 s.size]⟩ (all.data.toList.drop (oe + (36 + s.size))))) := Lib.hid (by rw [HR2.out, loadGo_step HNe.out (by unfold lstep; rw [if_neg (fun h => h69 (by rw [← hh]; exact h.1)), if_pos (Or.inl ⟨by rw [hh]; exact h83, rfl⟩)]), List.drop_drop])
                have hown := HOn.out
                obtain ⟨ua, uc, hu⟩ := row_shape hown
                subst hu
                have hb1 : (1 : Int) ≤ (s.size : Int) := by omega
                go_wp2_with (at_builtin; refine append_own1 rfl _ _ 68 rfl w.heap.size 9 1 16 Tryz.underlying68 _ info_strD rfl (by decide) _ _ _ rfl hown wn.heap.size rfl [.string (s.extract 1 s.size)] rfl rfl (by simp [Value.oneCell']) ?c1 ?c2 ?c3 ?_)
                case c1 => unfold maxLen; omega
                case c2 => omega
                case c3 => exact HBn.out.size
                intro v' wm hown3 hgrow
                have hrl : (Value.slice ua out.length uc).ownBlock ≠ some lg := row_ne hown HLn.out (by decide)
                have HLm : Hid (LogAt wm lg b k ⟨n, oe, om⟩) := Lib.hid (blk_grown (Blk.alloc HLn.out _) hgrow hrl)
                have HOm : Hid (wm.ownsRow w.heap.size 9 1 v' (out ++ [s.extract 1 s.size]).length (strVals (out ++ [s.extract 1 s.size]))) := Lib.hid (by
                  rw [List.length_append]
                  unfold strVals
                  rw [List.map_append]
                  exact hown3)
                have HBm := Lib.hid ((HBn.out.alloc HBn.out.size (.cells #[Value.string (s.extract 1 s.size)] 9)).grown hgrow (Nat.le_trans HBn.out.size (by rw [World.size_alloc]; exact Nat.le_succ _)) (fun g hg => (hown.lt g hg).1))
                have HOl : Hid ((out ++ [s.extract 1 s.size]).length ≤ oe + (36 + s.size)) := Lib.hid (by rw [List.length_append]; show out.length + 1 ≤ _; omega)
                clear hown hown3 hgrow hrl HLn HOn HBn
                have g3 : wm.frozen? ⟨lg, 3, none⟩ = false := HLm.out.free 3
                have g4 : wm.frozen? ⟨lg, 4, none⟩ = false := HLm.out.free 4
                have e3 : wm.cell? ⟨lg, 3, none⟩ = some (.int .i64 oe) := HLm.out.cell 3
                have e4 : wm.cell? ⟨lg, 4, none⟩ = some (.string om) := HLm.out.cell 4
                have hz1 : ((oe : Nat) : Int) + (36 + ((s.size : Nat) : Int)) = ((oe + (36 + s.size) : Nat) : Int) := by omega
                have HLe : Hid (LogAt ((wm.setCell ⟨lg, 3, none⟩ (.int .i64 ((oe : Nat) + (36 + ((s.size : Nat) : Int))))).setCell ⟨lg, 4, none⟩ (.string m)) lg b k ⟨n, oe + (36 + s.size), m⟩) := Lib.hid (by
                  rw [hz1]
                  exact Blk.set (Blk.set HLm.out 3 _) 4 _)
                have hci : cellInt ((wm.setCell ⟨lg, 3, none⟩ (.int .i64 ((oe : Nat) + (36 + ((s.size : Nat) : Int))))).setCell ⟨lg, 4, none⟩ (.string m)) ⟨lg, 3, none⟩ = oe + (36 + s.size) := by
                  unfold cellInt
                  rw [HLe.out.cell 3]
                  rfl
                have HCi := Lib.hid hci
                have HCo : Hid (cellInt wr ⟨lg, 3, none⟩ = oe) := Lib.hid (by unfold cellInt; rw [HD3.out]; rfl)
                have HBe := Lib.hid ((HBm.out.setCell (p := ⟨lg, 3, none⟩) hlg (.int .i64 ((oe : Nat) + (36 + ((s.size : Nat) : Int))))).setCell (p := ⟨lg, 4, none⟩) hlg (.string m))
                have hne : (Value.pointer (some ⟨lg, 0, none⟩)).ownBlock ≠ some 0 ∨ True := Or.inr trivial
                have HOe : Hid (((wm.setCell ⟨lg, 3, none⟩ (.int .i64 ((oe : Nat) + (36 + ((s.size : Nat) : Int))))).setCell ⟨lg, 4, none⟩ (.string m)).ownsRow w.heap.size 9 1 _ (out ++ [s.extract 1 s.size]).length (strVals (out ++ [s.extract 1 s.size]))) := Lib.hid (row_touch HOm.out (touch1_set (touch1_set (Touch.refl _ wm) _) _) (fun g hg e => row_ne HOm.out HLm.out (by decide) (by rw [← e]; exact hg)))
                clear hz1 hci hne HLm HOm HBm
                go_wp2_with fail
                go_roundw
                case rel => exact ⟨⟨oe + (36 + s.size), m, false, (out ++ [s.extract 1 s.size])⟩, f, rfl, HLt.out, HMz.out, HFl.out, HOl.out, HLe, HOe, HBe, HE3⟩
                case measure =>
                  rw [HCi.out, HCo.out]
                  have := HLt.out
                  omega
              · have b83 : ((s[0].toNat : Int) == 83) = false := by rw [beq_eq_false_iff_ne]; omega
                have HE2 : Hid (R = some ⟨oe, om, false, out⟩) := Lib.hid (by rw [HR2.out, loadGo_stop HNe.out (by unfold lstep; rw [if_neg (fun h => h69 (by rw [← hh]; exact h.1)), if_neg (fun h => h.elim (fun h => h83 (by rw [← hh]; exact h.1)) (fun h => by cases h.2))])])
                go_wp2_with fail
                all_goals first
                  | (exfalso; omega)
                  | (go_ret3; rw [HE2.out]; exact ⟨lg, _, rfl, hlg, HLn.out, HOn.out, HBn.out⟩)
          | true =>
            by_cases h82 : s[0].toNat = 82
            · have b82 : ((s[0].toNat : Int) == 82) = true := by rw [beq_iff_eq]; omega
              have b69 : ((s[0].toNat : Int) == 69) = false := by rw [beq_eq_false_iff_ne]; omega
              have b83 : ((s[0].toNat : Int) == 83) = false := by rw [beq_eq_false_iff_ne]; omega
              have HE3 : Hid (R = some (loadGo B f ⟨oe + (36 + s.size), m, true, out ++ [s.extract 1 s.size]⟩ (all.data.toList.drop (oe + (36 + s.size))))) := Lib.hid (by rw [HR2.out, loadGo_step HNe.out (by unfold lstep; rw [if_neg (fun h => by cases h.2.1), if_pos (Or.inr ⟨by rw [hh]; exact h82, rfl⟩)]), List.drop_drop])
              have hown := HOn.out
              obtain ⟨ua, uc, hu⟩ := row_shape hown
              subst hu
              have hb1 : (1 : Int) ≤ (s.size : Int) := by omega
              go_wp2_with (at_builtin; refine append_own1 rfl _ _ 68 rfl w.heap.size 9 1 16 Tryz.underlying68 _ info_strD rfl (by decide) _ _ _ rfl hown wn.heap.size rfl [.string (s.extract 1 s.size)] rfl rfl (by simp [Value.oneCell']) ?c1 ?c2 ?c3 ?_)
              case c1 => unfold maxLen; omega
              case c2 => omega
              case c3 => exact HBn.out.size
              intro v' wm hown3 hgrow
              have hrl : (Value.slice ua out.length uc).ownBlock ≠ some lg := row_ne hown HLn.out (by decide)
              have HLm : Hid (LogAt wm lg b k ⟨n, oe, om⟩) := Lib.hid (blk_grown (Blk.alloc HLn.out _) hgrow hrl)
              have HOm : Hid (wm.ownsRow w.heap.size 9 1 v' (out ++ [s.extract 1 s.size]).length (strVals (out ++ [s.extract 1 s.size]))) := Lib.hid (by
                rw [List.length_append]
                unfold strVals
                rw [List.map_append]
                exact hown3)
              have HBm := Lib.hid ((HBn.out.alloc HBn.out.size (.cells #[Value.string (s.extract 1 s.size)] 9)).grown hgrow (Nat.le_trans HBn.out.size (by rw [World.size_alloc]; exact Nat.le_succ _)) (fun g hg => (hown.lt g hg).1))
              have HOl : Hid ((out ++ [s.extract 1 s.size]).length ≤ oe + (36 + s.size)) := Lib.hid (by rw [List.length_append]; show out.length + 1 ≤ _; omega)
              clear hown hown3 hgrow hrl HLn HOn HBn
              have g3 : wm.frozen? ⟨lg, 3, none⟩ = false := HLm.out.free 3
              have g4 : wm.frozen? ⟨lg, 4, none⟩ = false := HLm.out.free 4
              have e3 : wm.cell? ⟨lg, 3, none⟩ = some (.int .i64 oe) := HLm.out.cell 3
              have e4 : wm.cell? ⟨lg, 4, none⟩ = some (.string om) := HLm.out.cell 4
              have hz1 : ((oe : Nat) : Int) + (36 + ((s.size : Nat) : Int)) = ((oe + (36 + s.size) : Nat) : Int) := by omega
              have HLe : Hid (LogAt ((wm.setCell ⟨lg, 3, none⟩ (.int .i64 ((oe : Nat) + (36 + ((s.size : Nat) : Int))))).setCell ⟨lg, 4, none⟩ (.string m)) lg b k ⟨n, oe + (36 + s.size), m⟩) := Lib.hid (by
                rw [hz1]
                exact Blk.set (Blk.set HLm.out 3 _) 4 _)
              have hci : cellInt ((wm.setCell ⟨lg, 3, none⟩ (.int .i64 ((oe : Nat) + (36 + ((s.size : Nat) : Int))))).setCell ⟨lg, 4, none⟩ (.string m)) ⟨lg, 3, none⟩ = oe + (36 + s.size) := by
                unfold cellInt
                rw [HLe.out.cell 3]
                rfl
              have HCi := Lib.hid hci
              have HCo : Hid (cellInt wr ⟨lg, 3, none⟩ = oe) := Lib.hid (by unfold cellInt; rw [HD3.out]; rfl)
              have HBe := Lib.hid ((HBm.out.setCell (p := ⟨lg, 3, none⟩) hlg (.int .i64 ((oe : Nat) + (36 + ((s.size : Nat) : Int))))).setCell (p := ⟨lg, 4, none⟩) hlg (.string m))
              have hne : (Value.pointer (some ⟨lg, 0, none⟩)).ownBlock ≠ some 0 ∨ True := Or.inr trivial
              have HOe : Hid (((wm.setCell ⟨lg, 3, none⟩ (.int .i64 ((oe : Nat) + (36 + ((s.size : Nat) : Int))))).setCell ⟨lg, 4, none⟩ (.string m)).ownsRow w.heap.size 9 1 _ (out ++ [s.extract 1 s.size]).length (strVals (out ++ [s.extract 1 s.size]))) := Lib.hid (row_touch HOm.out (touch1_set (touch1_set (Touch.refl _ wm) _) _) (fun g hg e => row_ne HOm.out HLm.out (by decide) (by rw [← e]; exact hg)))
              clear hz1 hci hne HLm HOm HBm
              go_wp2_with fail
              go_roundw
              case rel => exact ⟨⟨oe + (36 + s.size), m, true, (out ++ [s.extract 1 s.size])⟩, f, rfl, HLt.out, HMz.out, HFl.out, HOl.out, HLe, HOe, HBe, HE3⟩
              case measure =>
                rw [HCi.out, HCo.out]
                have := HLt.out
                omega
            · have b82 : ((s[0].toNat : Int) == 82) = false := by rw [beq_eq_false_iff_ne]; omega
              have HE2 : Hid (R = some ⟨oe, om, true, out⟩) := Lib.hid (by rw [HR2.out, loadGo_stop HNe.out (by unfold lstep; rw [if_neg (fun h => by cases h.2.1), if_neg (fun h => h.elim (fun h => by cases h.2) (fun h => h82 (by rw [← hh]; exact h.1)))])])
              go_wp2_with fail
              all_goals first
                | (exfalso; omega)
                | (go_ret3; rw [HE2.out]; exact ⟨lg, _, rfl, hlg, HLn.out, HOn.out, HBn.out⟩)
    · have HE : Hid (R = none) := Lib.hid (by rw [← HR.out, if_neg (fun h => h hz0), if_pos hr0])
      rw [HE.out]
      unfold Loaded
      obtain ⟨all, re⟩ := RD
      obtain ⟨sz, se⟩ := SZ
      dsimp only at hz0 hr0 hrs hz HZ HRd
      subst hz0
      have hb : (re != 0) = true := by rw [bne_iff_ne]; exact hr0
      clear HR HE hr0
      go_enter Tryz.func82, Tryz.ntmps82
      go_wp2_with fail
      refine (HN.out _).mono ?_
      rintro e w1 ⟨rfl, hb1⟩
      have HB1 := Lib.hid hb1
      clear hb1
      go_wp2_with fail
      refine (HZ.out _ HB1.out).mono ?_
      rintro e w2 ⟨rfl, rfl⟩
      go_wp2_with fail
      refine (HN.out _).mono ?_
      rintro e w2 ⟨rfl, hb2⟩
      have HB2 := Lib.hid (below_step HB1.out hb2)
      clear hb2
      go_wp2_with fail
      refine (HRd.out _ HB2.out).mono ?_
      rintro e w3 ⟨rfl, hb3⟩
      have HB3 := Lib.hid (below_step HB2.out hb3)
      clear hb3
      go_wp2_with fail
      go_ret3
      exact ⟨rfl, HB3.out⟩
  · have HE : Hid (R = none) := Lib.hid (by rw [← HR.out, if_pos hz0])
    rw [HE.out]
    unfold Loaded
    obtain ⟨sz, se⟩ := SZ
    dsimp only at hz0 hz HZ HRd
    have hb : (se != 0) = true := by rw [bne_iff_ne]; exact hz0
    clear HR HE hz0
    go_enter Tryz.func82, Tryz.ntmps82
    go_wp2_with fail
    refine (HN.out _).mono ?_
    rintro e w1 ⟨rfl, hb1⟩
    have HB1 := Lib.hid hb1
    clear hb1
    go_wp2_with fail
    refine (HZ.out _ HB1.out).mono ?_
    rintro e w2 ⟨rfl, rfl⟩
    go_wp2_with fail
    go_ret3
    exact ⟨rfl, HB1.out⟩
end Go.Proofs.YtaeklleogniimaaGreatDoor
