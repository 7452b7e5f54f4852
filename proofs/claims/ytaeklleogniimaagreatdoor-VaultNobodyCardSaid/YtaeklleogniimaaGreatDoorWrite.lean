/- Write, its loop and what it refuses. Conditions: sizes, order. -/
import Derived.Test.YtaeklleogniimaaGreatDoorWritePlain
import Derived.IntWalk
import Derived.Deep.AppendLies
namespace Go.Proofs.YtaeklleogniimaaGreatDoor
open Go.RowKit
set_option linter.unusedVariables false

theorem sectors_int (x : Int) (w : World) (h0 : 0 ≤ x) (h1 : x ≤ 4194304) : Calls Tryz.prog 220 #[.int .i64 x] w fun e w' => e = .returned (.int .i64 ((secs x.toNat : Nat) : Int)) ∧ w = w' := by
  obtain ⟨n, rfl⟩ := Int.eq_ofNat_of_zero_le h0
  exact sectors_any _ w (by omega)
def strLen : Value → Nat
  | .string t => t.size
  | _ => 0
/-- where a write stands between two pieces -/
structure WrAt (b : Nat) (S : DSt) (w : World) (i : Nat) (g : Nat) (m : Nat) (res : Int × PS) (WB : Nat) (CB : Int) (S1 : DSt) (a : Nat) (t : ByteArray) (wr : World) : Prop where
  go : wrGo m S1.pl i a t = res
  dev : Dev b S w S1 wr
  len : S1.files.length = S.files.length
  file : ∀ h : i < S1.files.length, S1.files[i].g = g
  small : Small S1.files
  wait : S1.wait.length + t.size ≤ WB
  count : 0 ≤ S1.count ∧ S1.count + t.size ≤ CB
  fuse : S1.fuse ≤ 9223372036854775807
theorem WrAt.drewN {b : Nat} {S : DSt} {w : World} {i g m : Nat} {res : Int × PS} {WB : Nat} {CB : Int} {S1 : DSt} {a : Nat} {t : ByteArray} {wr : World} (h : WrAt b S w i g m res WB CB S1 a t wr) (k : Nat) : WrAt b S w i g m res WB CB S1 a t (wr.drewN k) :=
  ⟨h.go, h.dev.below (below_drewN (Below.refl _ _) k), h.len, h.file, h.small, h.wait, h.count, h.fuse⟩
/-- one piece taken: the loop's relation behind it -/
theorem wr_end {b : Nat} {S : DSt} {w : World} {i g m : Nat} {res : Int × PS} {WB : Nat} {CB : Int} {S1 : DSt} {a1 : Nat} {t1 : ByteArray} {wr wc w4 : World} {M M' : DFile} {n qa ra : Nat} {fu : Int} {v' : Value}
    (h : WrAt b S w i g m res WB CB S1 a1 t1 wr) (hi : i < S1.files.length) (hM : S1.files[i] = M) (hn : n = room a1 t1) (hm : t1.size ≤ m) (ht : 0 < t1.size) (hf0 : ¬ S1.fuse = 0) (hfu : fu = if 0 < S1.fuse then S1.fuse - 1 else S1.fuse)
    (hqa : qa = a1 / 64) (hra : ra = a1 % 64) (hD : Dev b S w { S1 with fuse := fu, count := S1.count + 1, wv := v', wait := S1.wait ++ [⟨M.id, (qa : Int), (ra : Int), t1.extract 0 n⟩] } wc)
    (e1 : M'.g = M.g) (e2 : M'.id = M.id) (e3 : M'.name = M.name) (e4 : M'.last = M.last) (e5 : M'.seen = layB M.seen a1 (t1.extract 0 n).data.toList) (hsm : M'.seen.length ≤ 4194304)
    (r1 : FileAt w4 M') (r2 : Touch (fun k => k = M.g ∨ buf M k) wc w4) (r3 : ∀ k, buf M' k → buf M k ∨ wc.heap.size ≤ k) :
    WrAt b S w i g (m - 1) res WB CB { S1 with fuse := fu, count := S1.count + 1, wv := v', wait := S1.wait ++ [⟨M.id, (qa : Int), (ra : Int), t1.extract 0 n⟩], files := S1.files.set i M' } (a1 + n) (t1.extract n t1.size) w4 := by
  obtain ⟨hn1, hn2, hn3⟩ := room_pos (a := a1) ht
  subst hn hqa hra
  have hsz : (t1.extract (room a1 t1) t1.size).size = t1.size - room a1 t1 := rest_size
  have hid : idAt S1.pl i = M.id := by
    unfold idAt
    show ((S1.files.map DFile.pl)[i]?.map PF.id).getD 0 = _
    rw [List.getElem?_map, List.getElem?_eq_getElem hi, hM]
    rfl
  refine ⟨?_, ?_, ?_, ?_, ?_, ?_, ?_, ?_⟩
  · rw [← h.go, wrGo_step hm ht hf0]
    congr 1
    unfold wrStep
    rw [hid]
    show (PS.mk ((S1.files.set i M').map DFile.pl) _ _ _ _ _ _) = _
    rw [modify_pl hi (fun f => { f with seen := layB f.seen a1 (t1.extract 0 (room a1 t1)).data.toList }) M' (by
      rw [hM]
      unfold DFile.pl
      simp only [e2, e3, e4, e5])]
    rw [hfu]
    rfl
  · exact hD.trans (Dev.setFile (S := { S1 with fuse := fu, count := S1.count + 1, wv := v', wait := S1.wait ++ [⟨M.id, ((a1 / 64 : Nat) : Int), ((a1 % 64 : Nat) : Int), t1.extract 0 (room a1 t1)⟩] }) hD.at_ i hi M' (by rw [e1]; exact congrArg DFile.g hM.symm) r1 (by
      show Touch (fun k => k = S1.files[i].g ∨ buf S1.files[i] k) wc w4
      rw [hM]; exact r2) (by
      show ∀ k, buf M' k → buf S1.files[i] k ∨ wc.heap.size ≤ k
      rw [hM]; exact r3))
  · show (S1.files.set i M').length = _
    rw [List.length_set]; exact h.len
  · intro hi2
    show (S1.files.set i M')[i].g = g
    rw [List.getElem_set_self, e1, ← hM]
    exact h.file hi
  · intro f hf
    rcases List.mem_or_eq_of_mem_set hf with h1 | h1
    · exact h.small f h1
    · subst h1
      have := h.small _ (List.getElem_mem hi)
      rw [hM] at this
      exact ⟨hsm, by rw [e4]; exact this.2⟩
  · show (S1.wait ++ [_]).length + _ ≤ WB
    have := h.wait
    rw [List.length_append, hsz]
    simp only [List.length_cons, List.length_nil]
    omega
  · have := h.count
    refine ⟨by show 0 ≤ S1.count + 1; omega, ?_⟩
    show S1.count + 1 + _ ≤ CB
    rw [hsz]
    omega
  · show fu ≤ _
    have := h.fuse
    rw [hfu]
    split <;> omega
set_option maxRecDepth 100000 in
set_option maxHeartbeats 4000000 in
theorem write_some (b : Nat) (S : DSt) (s : ByteArray) (a : Nat) (t : ByteArray) (i : Nat) (hi : i < S.files.length) (F : DFile) (hFi : S.files[i] = F) (w : World) (h : DiskAt w b S) (hor : Ordered S.files) (hl : S.files.length ≤ 1000000000) (hsm : Small S.files) (hon : S.off = false) (hm : 0 ≤ S.most ∧ S.most ≤ 32768)
    (hfi : findF S.files s = some F) (ha : (a : Int) ≤ 2097152 - (t.size : Int)) (hroom : t.size = 0 ∨ ((secs (a + t.size) : Nat) : Int) - ((secsOf F : Nat) : Int) ≤ S.most - (usedOf S.files : Nat)) (hwl : S.wait.length ≤ 1000000000) (hct : 0 ≤ S.count ∧ S.count ≤ 1000000000000) (hfu : S.fuse ≤ 9223372036854775807) :
    Calls Tryz.prog 150 #[.pointer (some ⟨b, 0, none⟩), .string s, .int .i64 a, .string t] w fun e w' => e = .returned (.int .i64 (wrGo t.size S.pl i a t).1) ∧ ∃ S', Dev b S w S' w' ∧ S'.pl = (wrGo t.size S.pl i a t).2 := by
  have hr := Lib.hid (ready_on b S w h hon)
  have hf := find_any b S s w h hor hl
  rw [hfi] at hf
  have HF := Lib.hid hf
  have hA := h.fat _ (List.getElem_mem hi)
  have hs1 := hsm _ (List.getElem_mem hi)
  rw [hFi] at hA hs1
  obtain ⟨la, lc, hlv⟩ := row_shape hA.last
  obtain ⟨sa, sc, hsv⟩ := row_shape hA.seen
  have d2 : w.cell? ⟨F.g, 2, none⟩ = some (.slice la F.last.length lc) := by rw [← hlv]; exact hA.blk.cell 2
  have d3 : w.cell? ⟨F.g, 3, none⟩ = some (.slice sa F.seen.length sc) := by rw [← hsv]; exact hA.blk.cell 3
  have hrec := Lib.hid (show WrAt b S w i F.g t.size (wrGo t.size S.pl i a t) (S.wait.length + t.size) (S.count + t.size) S a t w from ⟨rfl, Dev.refl h, rfl, fun _ => by rw [hFi], hsm, Nat.le_refl _, ⟨hct.1, Int.le_refl _⟩, hfu⟩)
  generalize hRES : wrGo t.size S.pl i a t = RES at hrec ⊢
  have Hfree := Lib.hid (fun n => free_any b S (w.drewN n) (h.drewN n) hl hsm hm)
  have Hse := Lib.hid (show secsOf F = secs (max F.seen.length F.last.length) from rfl)
  have H := Lib.hid h
  have hus : usedOf S.files ≤ 1000000000 * 65537 := Nat.le_trans (usedOf_le hsm) (Nat.mul_le_mul_right _ hl)
  have hse1 : secs (a + t.size) ≤ 40000 := by unfold secs; omega
  have hse2 : secsOf F ≤ 65537 := by rw [Hse.out]; unfold secs; omega
  have hwb : S.wait.length + t.size ≤ 2000000000 := by omega
  have hcb : S.count + t.size ≤ 2000000000000 := by omega
  generalize S.wait.length + t.size = WB at hrec hwb
  generalize S.count + (t.size : Int) = CB at hrec hcb
  clear h hor hf hA hlv hsv hsm hFi hRES hct hfu hwl hon hfi
  generalize usedOf S.files = U at *
  go_enter Tryz.func150, Tryz.ntmps150
  go_wp2_with fail
  refine hr.out.mono ?_
  rintro e w' ⟨rfl, rfl⟩
  go_wp2_with fail
  refine HF.out.mono ?_
  rintro e w' ⟨rfl, rfl⟩
  go_wp2_with fail
  have hat : a + t.size ≤ 2097152 := by omega
  have hwrap : IntKind.i64.wrap ((a : Int) + (t.size : Int)) = (a : Int) + (t.size : Int) := IntWalk.i64_in _ (by omega)
  obtain ⟨hs2, hs3⟩ := hs1
  go_quiet ((go_at_call 220; first | exact quiet_left (sectors_int _ _ (by omega) (by omega)) | exact quiet_add_left (sectors_int _ _ (by omega) (by omega))))
  clear hwrap
  have hmxe : (max (F.seen.length : Int) (F.last.length : Int)).toNat = max F.seen.length F.last.length := by omega
  rw [hmxe, ← Hse.out]
  clear hmxe
  have Hrec := Lib.hid (fun k => show WrAt b S w i F.g t.size RES WB CB S a t (w.drewN k) from ⟨hrec.out.go, hrec.out.dev.below (below_drewN (Below.refl _ _) k), hrec.out.len, hrec.out.file, hrec.out.small, hrec.out.wait, hrec.out.count, hrec.out.fuse⟩)
  clear hrec Hse
  generalize secs (a + t.size) = A at *
  generalize secsOf F = B at *
  rw [show wrap64 ((A : Int) - (B : Int)) = (A : Int) - (B : Int) by unfold wrap64; omega]
  have hgo : ((0 : Int) < (t.size : Int) ∧ ¬ (S.most - (U : Int) < (A : Int) - (B : Int))) ∨ ¬ ((0 : Int) < (t.size : Int)) := by omega
  clear hroom d2 d3
  go_upto_region 10 with (fail)
  go_cut [58] (fun v wx => v = .bool false ∧ Hid (WrAt b S w i F.g t.size RES WB CB S a t wx))
  case first =>
    rcases hgo with ⟨hgo1, hgo2⟩ | hgo1
    · go_wp2_with fail
      refine (Hfree.out _).mono ?_
      rintro e w' ⟨rfl, n2, rfl⟩
      go_wp2_with fail
      go_meet
      exact ⟨congrArg Value.bool (decide_eq_false (by omega)), Hrec.out _⟩
    · go_wp2_with fail
      go_meet
      exact ⟨rfl, Hrec.out _⟩
  case rest =>
    clear Hrec Hfree hgo
    obtain ⟨rfl, HR⟩ := hcut

    clear hus hse1 hse2
    have hfr : a + t.size ≤ 2097152 := hat
    clear hat ha
    go_wp2_with fail
    go_loopw [2, 3] (fun x y wr => ∃ (a1 : Nat) (t1 : ByteArray) (S1 : DSt) (m : Nat), x = .int .i64 a1 ∧ y = .string t1 ∧ a1 + t1.size ≤ 2097152 ∧ t1.size ≤ m ∧ Hid (WrAt b S w i F.g m RES WB CB S1 a1 t1 wr)) (fun _ y _ => strLen y)
    case atStart => exact ⟨a, t, S, t.size, rfl, rfl, hfr, Nat.le_refl _, HR⟩
    case round =>
      clear HR hfr
      obtain ⟨a1, t1, S1, m, rfl, rfl, hfr, hm1, HR⟩ := hrel
      have hDA := HR.out.dev.at_
      by_cases ht : 0 < t1.size
      · have hi1 : i < S1.files.length := by rw [HR.out.len]; exact hi
        have hMg := HR.out.file hi1
        obtain ⟨hn1, hn2, hn3⟩ := room_pos (a := a1) ht
        have hmin : min (t1.size : Int) (64 - (a1 : Int) % 64) = ((room a1 t1 : Nat) : Int) := by unfold room; omega
        have c3 : wr.cell? ⟨b, 3, none⟩ = some (.int .i64 S1.fuse) := hDA.blk.cell 3
        have f3 := hDA.blk.free 3
        have c4 : wr.cell? ⟨b, 4, none⟩ = some (.bool S1.off) := hDA.blk.cell 4
        have f4 := hDA.blk.free 4
        have c5 : wr.cell? ⟨b, 5, none⟩ = some (.int .i64 S1.count) := hDA.blk.cell 5
        have f5 := hDA.blk.free 5
        have hcn := HR.out.count
        have hfu := HR.out.fuse
        have Hgo := Lib.hid HR.out.go
        have HDA := Lib.hid hDA
        have Hlay := Lib.hid (show room a1 t1 = min t1.size (64 - a1 % 64) from rfl)
        generalize room a1 t1 = n at *
        clear hDA
        by_cases hf0 : S1.fuse = 0
        · have hg2 := Hgo.out
          rw [wrGo_off hm1 ht hf0] at hg2
          have Hg2 := Lib.hid hg2
          have HD2 := Lib.hid (HR.out.dev.trans (Dev.setNum (S' := { S1 with off := true }) HDA.out 4 (.bool true) rfl rfl rfl rfl rfl))
          rw [hf0] at c3
          clear hg2 hf0
          go_wp2_with fail
          go_ret
          exact ⟨by rw [← Hg2.out]; rfl, _, HD2.out, by rw [← Hg2.out]; rfl⟩
        · have hb0 : (S1.fuse == 0) = false := beq_eq_false_iff_ne.2 hf0
          have Hf0 := Lib.hid hf0
          clear hf0
          obtain ⟨M, hM⟩ : ∃ M, S1.files[i] = M := ⟨_, rfl⟩
          rw [hM] at hMg
          have HM := Lib.hid hM
          have HMg := Lib.hid hMg
          clear hM hMg
          obtain ⟨fu, hfu2⟩ : ∃ fu, fu = if 0 < S1.fuse then S1.fuse - 1 else S1.fuse := ⟨_, rfl⟩
          have HFU := Lib.hid hfu2
          have hbr := HDA.out.blk.lt
          have hfp : 0 < S1.fuse ∨ ¬ (0 < S1.fuse) := by omega
          clear hfu2
          go_upto_if 80 with (fail)
          go_cut [] (fun wx => Hid (Dev b S w { S1 with fuse := fu } wx))
          case first =>
            rcases hfp with hfp | hfp
            · have HS1 := Lib.hid (HR.out.dev.trans (Dev.setNum (S' := { S1 with fuse := fu }) HDA.out 3 (.int .i64 (S1.fuse - 1)) (by rw [HFU.out, if_pos hfp]; rfl) rfl rfl rfl rfl))
              go_wp2_with fail
              go_meet
              exact HS1.out
            · have HS1 := Lib.hid (show Dev b S w { S1 with fuse := fu } wr from by
                have e : ({ S1 with fuse := fu } : DSt) = S1 := by rw [HFU.out, if_neg hfp]
                rw [e]; exact HR.out.dev)
              go_wp2_with fail
              go_meet
              exact HS1.out
          case rest =>
            have HS1 := hcut
            have c5 : wc.cell? ⟨b, 5, none⟩ = some (.int .i64 S1.count) := HS1.out.at_.blk.cell 5
            have f5 := HS1.out.at_.blk.free 5
            have HS2 := Lib.hid (HS1.out.trans (Dev.setNum (S' := { S1 with fuse := fu, count := S1.count + 1 }) HS1.out.at_ 5 (.int .i64 (S1.count + 1)) rfl rfl rfl rfl rfl))
            clear hcut
            go_upto_region 20 with (fail)
            generalize wc.setCell ⟨b, 5, none⟩ (.int .i64 (S1.count + 1)) = w2 at HS2 ⊢
            clear HS1 c5 f5
            have hD2 := HS2.out.at_
            have c1 : w2.cell? ⟨b, 1, none⟩ = some S1.wv := hD2.blk.cell 1
            have hF2 : FileAt w2 M := by have := hD2.fat _ (List.getElem_mem hi1); rw [← HM.out]; exact this
            have d0 : w2.cell? ⟨M.g, 0, none⟩ = some (.int .i64 M.id) := hF2.blk.cell 0
            rw [HMg.out] at d0
            have hb2 := hD2.blk.lt
            have hg2 := hF2.blk.lt
            rw [HMg.out] at hg2
            have hnb : S1.wv.ownBlock ≠ some b := hD2.b_ne.2.1
            have hownw : w2.ownsRow 0 198 4 S1.wv S1.wait.length (waitVals S1.wait) := hD2.wrow
            have Hown := Lib.hid hownw
            have hwl : S1.wait.length ≤ 2000000000 := by have := HR.out.wait; omega
            have hi4 : (n : Int) ≤ (t1.size : Int) := by omega
            have f1 := hD2.blk.free 1
            obtain ⟨i0, hi0, hz0, hz1, hz2⟩ := info_parts info_write
            have Hi0 := Lib.hid hi0
            have hfa : ∀ o : Obj, (w2.alloc o).drew.frozen? ⟨b, 1, none⟩ = false := fun o => (hD2.blk.alloc o).drew.free 1
            have hfb : ∀ o : Obj, (w2.alloc o).frozen? ⟨b, 1, none⟩ = false := fun o => (hD2.blk.alloc o).free 1
            clear c3 f3 c4 f4 hF2 hmin hi0 hD2 hownw
            have H63 := Lib.hid (show S1.wait.length + 1 ≤ maxLen by unfold maxLen; omega)
            have HBY := Lib.hid (show (S1.wait.length + 1) * 40 ≤ 140737488355328 by omega)
            have HBL := Lib.hid (show ∀ o : Obj, b < (w2.alloc o).drew.heap.size from fun o => by
              have : (w2.alloc o).drew.heap.size = w2.heap.size + 1 := by simp
              omega)
            have HSZ := Lib.hid (show ∀ o : Obj, (w2.alloc o).drew.heap.size = w2.heap.size + 1 from fun o => by simp)
            obtain ⟨qa, hqa⟩ : ∃ qa, qa = a1 / 64 := ⟨_, rfl⟩
            obtain ⟨ra, hra⟩ : ∃ ra, ra = a1 % 64 := ⟨_, rfl⟩
            have hq1 : IntKind.i64.wrap ((a1 : Int) / 64) = (qa : Int) := by rw [IntWalk.i64_in _ (by omega)]; omega
            have hq2 : (a1 : Int).tmod 64 = (ra : Int) := by rw [Int.tmod_eq_emod_of_nonneg (by omega)]; omega
            have Hqa := Lib.hid hqa
            have Hra := Lib.hid hra
            clear hqa hra
            go_cut [] (fun wx => Hid (∃ v', Dev b S w { S1 with fuse := fu, count := S1.count + 1, wv := v', wait := S1.wait ++ [⟨M.id, (qa : Int), (ra : Int), t1.extract 0 n⟩] } wx))
            case first =>
              go_region_law
                ((refine step_append_lies _ (by rfl) _ _ _ (by rfl) 0 198 i0 _ 4 40 Tryz.underlying77 Hi0.out hz0 hz1 hz2 rfl (by decide) S1.wv S1.wait.length (waitVals S1.wait) (by rfl) ((Hown.out.alloc _).drew) ⟨w2.heap.size, 0, none⟩ 1 1 [.int .i64 M.id, .int .i64 (qa : Int), .int .i64 (ra : Int), .string (t1.extract 0 n)] (by rfl) (by rfl) (World.news_of_block (cs := #[.int .i64 M.id, .int .i64 (qa : Int), .int .i64 (ra : Int), .string (t1.extract 0 n)]) (t := 198) (fr := (0, 0)) (heap_alloc_new w2 _)) (by simp [Value.oneCell']) (by decide) H63.out HBY.out (Nat.zero_le _) (w2.heap.size + 1) (HSZ.out _) ?_; intro gg cap w4 hown4 hgrow hat hlt; have hc4 := hgrow.cell_far ⟨b, 1, none⟩ (HBL.out _) (Ne.symm hnb); have hf4 := hgrow.frozen_far ⟨b, 1, none⟩ (HBL.out _) (Ne.symm hnb)))
              all_goals go_wp2_with fail
              all_goals go_meet
              all_goals
                exact ⟨_, HS2.out.trans (Dev.addWait (p := ⟨M.id, (qa : Int), (ra : Int), t1.extract 0 n⟩) HS2.out.at_ hown4 (touch_grown (((Touch.refl _ w2).alloc _).drew) hgrow (fun g hg => Or.inl hg)) (by
                  rcases hat with e | e
                  · exact Or.inl e
                  · right; omega))⟩
            case rest =>
              obtain ⟨v', hD3⟩ := hcut.out
              have HD3 := Lib.hid hD3
              clear hcut hD3 hq1 hq2 c1 d0 f1 hfa hfb H63 HBY HBL HSZ hnb hb2 hg2 hz0 hz1 hz2 Hi0 Hown HS2
              have hF3 : FileAt wc M := by have := HD3.out.at_.fat _ (List.getElem_mem hi1); rw [← HM.out]; exact this
              have hsm3 : M.seen.length ≤ 4194304 ∧ M.last.length ≤ 4194304 := by have := HR.out.small _ (List.getElem_mem hi1); rw [HM.out] at this; exact this
              have HF3 := Lib.hid hF3
              obtain ⟨sa1, sc1, hsv1⟩ := row_shape hF3.seen
              have d3 : wc.cell? ⟨F.g, 3, none⟩ = some (.slice sa1 M.seen.length sc1) := by rw [← HMg.out, ← hsv1]; exact hF3.blk.cell 3
              have hgr := grown_any M.sv M.seen.length (a1 + n) (bytesVals M.seen) wc hF3.seen hsm3.1 (by omega)
              rw [show ((a1 + n : Nat) : Int) = (a1 : Int) + (n : Int) by omega, hsv1] at hgr
              have HGR := Lib.hid hgr
              have Hsv1 := Lib.hid hsv1
              clear hF3 hgr hsv1
              go_wp2_with fail
              refine HGR.out.mono ?_
              rintro e wB ⟨v2, rfl, hrow, hT, hB⟩
              obtain ⟨g', cp', rfl, _, hgl', hz1, hz2, _⟩ := row_some hrow (by omega)
              have hgo : M.sv.ownBlock = some g' ∨ g' = wc.heap.size := by
                rw [Hsv1.out]
                rcases hB with h | h
                · left; rw [← h]; rfl
                · right; simpa [Value.ownBlock] using h
              rw [← Hsv1.out] at hT
              have hMb := HF3.out.blk.touch hT (fun e => row_ne HF3.out.seen HF3.out.blk (by decide) e)
              have e2 : wB.cell? ⟨F.g, 3, none⟩ = some M.sv := by rw [← HMg.out]; exact hMb.cell 3
              have f2 : wB.frozen? ⟨F.g, 3, none⟩ = false := by rw [← HMg.out]; exact hMb.free 3
              obtain ⟨k1, k2, k3, k4, k5, k6⟩ := file_grew_seen HF3.out hT hrow hgo
              rw [HMg.out] at k1 k2 k3 k5 k6
              have K1 := Lib.hid k1; have K2 := Lib.hid k2; have K3 := Lib.hid k3; have K6 := Lib.hid k6; have Hgo2 := Lib.hid hgo; have K4 := Lib.hid k4; have K5 := Lib.hid k5
              clear k1 k2 k3 k4 k5 k6 hMb hT hrow hB hgo HGR d3
              go_upto_region 22 with (fail)
              generalize wB.setCell ⟨F.g, 3, none⟩ (.slice (some ⟨g', 0, none⟩) (max M.seen.length (a1 + n)) cp') = w3 at K1 K2 K3 K6 ⊢
              obtain ⟨NN, hNN⟩ : ∃ NN, NN = max M.seen.length (a1 + n) := ⟨_, rfl⟩
              rw [← hNN] at K1 K2 ⊢
              have HNN := Lib.hid hNN
              have hN1 : a1 + n ≤ NN := by omega
              have hN2 : NN ≤ cp' := by omega
              have hN3 : cp' ≤ 9223372036854775807 := by unfold maxLen at hz2; omega
              have d3 : w3.cell? ⟨F.g, 3, none⟩ = some (.slice (some ⟨g', 0, none⟩) NN cp') := K1.out.cell 3
              have i1 : (a1 : Int) ≤ (NN : Int) := by omega
              have i2 : (NN : Int) ≤ (cp' : Int) := by omega
              have i3 : ¬ (cp' = a1) := by omega
              have K2d : Hid (w3.drew.ownsRow 0 5 1 (.slice (some ⟨g', 0, none⟩) NN cp') NN (bytesVals M.seen ++ noughts (a1 + n - M.seen.length))) := row_touch (S := fun _ => False) K2.out (Touch.refl _ w3).drew (fun _ _ h => h)
              clear hNN e2 f2 hz1 hz2
              go_still_tail 9, (by kernel_rfl)
              change wpList _ _ _ _ _ w3.drew
              obtain ⟨w4, hr4, hrow4, hT4⟩ := run_copy_text w3.drew g' NN cp' a1 _ (t1.extract 0 n) 3 K2d.out (by rw [ByteArray.size_extract]; omega)
              have HR4 := Lib.hid hr4
              have hes : (t1.extract 0 n).size = n := by rw [ByteArray.size_extract]; omega
              rw [hes] at hrow4
              have Hrow4 := Lib.hid hrow4
              have HT4 := Lib.hid hT4
              clear hr4 hrow4 hT4 hes d3
              go_wp2_with (refine Lib.wpList_copy_run _ rfl _ _ 134 9 rfl _ _ rfl rfl HR4.out ?_)
              have hes2 : ((t1.extract 0 n).data.toList).length = n := by rw [extract_take, take_size hn2]
              have hl2 : (layB M.seen a1 (t1.extract 0 n).data.toList).length = NN := by rw [layB_length, hes2, HNN.out]
              have hlx : List.take a1 (bytesVals M.seen ++ noughts (a1 + n - M.seen.length)) ++ bytesVals (t1.extract 0 n).data.toList ++ List.drop (a1 + n) (bytesVals M.seen ++ noughts (a1 + n - M.seen.length)) = bytesVals (layB M.seen a1 (t1.extract 0 n).data.toList) := by
                have := bytesVals_lay M.seen a1 (t1.extract 0 n).data.toList (by rw [hes2]; exact hn1)
                rw [hes2] at this
                exact this
              obtain ⟨r1, r2, r3⟩ := file_laid_seen (w := wc) (w2 := w3) (w3 := w4) (f := M) (t := (t1.extract 0 n).data.toList) (a := a1) (by rw [HMg.out]; exact K1.out) K3.out K4.out (by rw [HMg.out]; exact K5.out) (by rw [HMg.out]; exact K6.out) ((Touch.refl _ w3).drew.trans HT4.out) Hgo2.out hl2.symm hlx Hrow4.out
              have HDn := Lib.hid (fun q => (wr_end (M' := { M with sv := .slice (some ⟨g', 0, none⟩) NN cp', seen := layB M.seen a1 (t1.extract 0 n).data.toList }) HR.out hi1 HM.out (Hlay.out.trans rfl) hm1 ht Hf0.out HFU.out Hqa.out Hra.out HD3.out rfl rfl rfl rfl rfl (by rw [hl2, HNN.out]; omega) r1 r2 r3).drewN q)
              clear r1 r2 r3 hl2 hlx hes2 K1 K2 K3 K4 K5 K6 K2d HT4 Hrow4 HR4 HNN hN1 hN2 hN3 i1 i2 i3 hgl'
              have hw1 : IntKind.i64.wrap ((a1 : Int) + (n : Int)) = (a1 : Int) + (n : Int) := IntWalk.i64_in _ (by omega)
              go_quiet (fail)
              clear hw1
              go_wp2_with fail
              go_roundw
              case rel => exact ⟨a1 + n, t1.extract n t1.size, _, m - 1, by go_num, rfl, by rw [ByteArray.size_extract]; omega, by rw [ByteArray.size_extract]; omega, HDn.out _⟩
              case measure => simp [strLen, ByteArray.size_extract]; omega
      · have h0 : t1.size = 0 := by omega
        have hgo := HR.out.go
        rw [wrGo_done h0] at hgo
        have Hgo := Lib.hid hgo
        clear hgo hDA
        go_wp2_with fail
        go_ret
        exact ⟨by rw [← Hgo.out]; rfl, S1, HR.out.dev, by rw [← Hgo.out]⟩
end Go.Proofs.YtaeklleogniimaaGreatDoor
