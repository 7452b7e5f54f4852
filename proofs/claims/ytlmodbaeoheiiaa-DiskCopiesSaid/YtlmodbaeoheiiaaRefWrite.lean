/- The document's device: Write. No condition but the sizes. -/
import Derived.Test.YtlmodbaeoheiiaaRefSpoil
import Derived.Test.YtlmodbaeoheiiaaWrite
namespace Go.Proofs.Ytlmodbaeoheiiaa
open Go.RowKit
set_option linter.unusedVariables false

def rwStep (Q : QS) (k a : Nat) (t : ByteArray) : QS :=
  { Q with fuse := if 0 < Q.fuse then Q.fuse - 1 else Q.fuse, count := Q.count + 1, wait := Q.wait ++ [⟨ridAt Q k, (a : Int), t⟩], files := Q.files.modify k fun f => { f with seen := rlay f.seen a t } }
def rwGo : Nat → QS → Nat → Nat → ByteArray → Int × QS
  | 0, Q, _, _, _ => (0, Q)
  | n + 1, Q, k, a, t => if t.size = 0 then (0, Q) else if Q.fuse = 0 then (14, { Q with off := true }) else rwGo n (rwStep Q k a (t.extract 0 (room a t))) k (a + room a t) (t.extract (room a t) t.size)
theorem rwGo_done {n : Nat} {Q : QS} {k a : Nat} {t : ByteArray} (h : t.size = 0) : rwGo n Q k a t = (0, Q) := by
  cases n with
  | zero => rfl
  | succ n => unfold rwGo; rw [if_pos h]
theorem rwGo_off {n : Nat} {Q : QS} {k a : Nat} {t : ByteArray} (hn : t.size ≤ n) (h : 0 < t.size) (hf : Q.fuse = 0) : rwGo n Q k a t = (14, { Q with off := true }) := by
  cases n with
  | zero => omega
  | succ n => unfold rwGo; rw [if_neg (by omega), if_pos hf]
theorem rwGo_step {n : Nat} {Q : QS} {k a : Nat} {t : ByteArray} (hn : t.size ≤ n) (h : 0 < t.size) (hf : Q.fuse ≠ 0) : rwGo n Q k a t = rwGo (n - 1) (rwStep Q k a (t.extract 0 (room a t))) k (a + room a t) (t.extract (room a t) t.size) := by
  cases n with
  | zero => omega
  | succ n => conv => lhs; unfold rwGo
              rw [if_neg (by omega), if_neg hf]
              rfl
structure RwAt (q : Nat) (R : RSt) (w : World) (k m : Nat) (res : Int × QS) (WB : Nat) (CB : Int) (R1 : RSt) (a : Nat) (t : ByteArray) (wr : World) : Prop where
  go : rwGo m R1.pl k a t = res
  dev : RDev q R w R1 wr
  fv : R1.fv = R.fv
  len : R1.files.length = R.files.length
  small : RSmall R1.files
  wait : R1.wait.length + t.size ≤ WB
  count : 0 ≤ R1.count ∧ R1.count + t.size ≤ CB
  fuse : R1.fuse ≤ 9223372036854775807
theorem rw_end {q : Nat} {R : RSt} {w : World} {k m : Nat} {res : Int × QS} {WB : Nat} {CB : Int} {R1 : RSt} {a1 : Nat} {t1 : ByteArray} {wr w4 : World} {n : Nat} {fu : Int} {v' : Value}
    (h : RwAt q R w k m res WB CB R1 a1 t1 wr) (hi : k < R1.files.length) (hn : n = room a1 t1) (hm : t1.size ≤ m) (ht : 0 < t1.size) (hat : a1 + t1.size ≤ 2097152) (hf0 : ¬ R1.fuse = 0) (hfu : fu = if 0 < R1.fuse then R1.fuse - 1 else R1.fuse)
    (hD : RDev q R w { R1 with fuse := fu, count := R1.count + 1, wv := v', wait := R1.wait ++ [⟨R1.files[k].id, (a1 : Int), t1.extract 0 n⟩], files := R1.files.set k { R1.files[k] with seen := rlay R1.files[k].seen a1 (t1.extract 0 n) } } w4) :
    RwAt q R w k (m - 1) res WB CB { R1 with fuse := fu, count := R1.count + 1, wv := v', wait := R1.wait ++ [⟨R1.files[k].id, (a1 : Int), t1.extract 0 n⟩], files := R1.files.set k { R1.files[k] with seen := rlay R1.files[k].seen a1 (t1.extract 0 n) } } (a1 + n) (t1.extract n t1.size) w4 := by
  obtain ⟨hn1, hn2, hn3⟩ := room_pos (a := a1) ht
  subst hn
  have hsz : (t1.extract (room a1 t1) t1.size).size = t1.size - room a1 t1 := rest_size
  have hid : ridAt R1.pl k = R1.files[k].id := by
    unfold ridAt
    show (R1.files[k]?.map RF.id).getD 0 = _
    rw [List.getElem?_eq_getElem hi]
    rfl
  refine ⟨?_, hD, h.fv, ?_, ?_, ?_, ?_, ?_⟩
  · rw [← h.go, rwGo_step hm ht hf0]
    congr 1
    unfold rwStep
    rw [hid, hfu]
    show (QS.mk (R1.files.set k _) _ _ _ _ _ _) = QS.mk (R1.files.modify k _) _ _ _ _ _ _
    rw [set_modify hi (fun f => { f with seen := rlay f.seen a1 (t1.extract 0 (room a1 t1)) }) _ rfl]
    rfl
  · show (R1.files.set k _).length = _
    rw [List.length_set]; exact h.len
  · intro f hf
    rcases List.mem_or_eq_of_mem_set hf with h1 | h1
    · exact h.small f h1
    · subst h1
      have := h.small _ (List.getElem_mem hi)
      refine ⟨?_, this.2⟩
      show (rlay _ _ _).size ≤ _
      rw [rlay_size, ByteArray.size_extract]
      omega
  · show (R1.wait ++ [_]).length + _ ≤ WB
    have := h.wait
    rw [List.length_append, hsz]
    simp only [List.length_cons, List.length_nil]
    omega
  · have := h.count
    refine ⟨by show 0 ≤ R1.count + 1; omega, ?_⟩
    show R1.count + 1 + _ ≤ CB
    rw [hsz]
    omega
  · show fu ≤ _
    have := h.fuse
    rw [hfu]
    split <;> omega
def rsecsI (Q : QS) (k : Nat) : Nat := (Q.files[k]?.map rsecs).getD 0
def QS.write (Q : QS) (s : ByteArray) (a : Int) (t : ByteArray) : Int × QS :=
  if Q.off then (14, Q) else if refIdx Q.files s < 0 then (8, Q) else if a < 0 ∨ 2097152 - (t.size : Int) < a then (2, Q) else
    if 0 < t.size ∧ Q.most - (rused Q.files : Nat) < ((secs (a.toNat + t.size) : Nat) : Int) - ((rsecsI Q (refIdx Q.files s).toNat : Nat) : Int) then (7, Q) else rwGo t.size Q (refIdx Q.files s).toNat a.toNat t
theorem isEmpty_false {t : ByteArray} (h : 0 < t.size) : t.toList.isEmpty = false := notEmpty t h
set_option maxRecDepth 100000 in
set_option maxHeartbeats 4000000 in
theorem refWrite_room (q : Nat) (R : RSt) (s : ByteArray) (a : Nat) (t : ByteArray) (k : Nat) (hk : k < R.files.length) (w : World) (h : RefD w q R) (ho : R.off = false) (hl : R.files.length ≤ 1000000) (hs : RSmall R.files) (hm : 0 ≤ R.most ∧ R.most ≤ 32768) (hx : refIdx R.files s = k) (ha : (a : Int) ≤ 2097152 - (t.size : Int))
    (hroom : t.size = 0 ∨ ((secs (a + t.size) : Nat) : Int) - ((rsecs R.files[k] : Nat) : Int) ≤ R.most - (rused R.files : Nat)) (hwl : R.wait.length ≤ 1000000000) (hct : 0 ≤ R.count ∧ R.count ≤ 1000000000000) (hfu : R.fuse ≤ 9223372036854775807) :
    Calls Try.prog 52 #[.pointer (some ⟨q, 0, none⟩), .string s, .int .i64 (a : Int), .string t] w fun e w' => e = .returned (.int .i64 (rwGo t.size R.pl k a t).1) ∧ ∃ R', RDev q R w R' w' ∧ R'.pl = (rwGo t.size R.pl k a t).2 := by
  have HF := Lib.hid (refFind_any q R s w h hl)
  rw [hx] at HF
  have d4 := refOff q R w h false ho
  obtain ⟨g, cap, hv, hgl, hc⟩ := rfile_at h k hk
  have Hgv := Lib.hid hv
  have c0 : w.cell? ⟨q, 0, none⟩ = some (.slice (some ⟨g, 0, none⟩) R.files.length cap) := by rw [← hv]; exact h.blk.cell 0
  have hrec := Lib.hid (show RwAt q R w k t.size (rwGo t.size R.pl k a t) (R.wait.length + t.size) (R.count + t.size) R a t w from ⟨rfl, RDev.refl h, rfl, rfl, hs, Nat.le_refl _, ⟨hct.1, Int.le_refl _⟩, hfu⟩)
  generalize hRES : rwGo t.size R.pl k a t = RES at hrec ⊢
  have H := Lib.hid h
  have hql := h.blk.lt
  obtain ⟨hs1, hs2⟩ := hs _ (List.getElem_mem hk)
  have hwb : R.wait.length + t.size ≤ 2000000000 := by omega
  have hcb : R.count + t.size ≤ 2000000000000 := by omega
  have hus : rused R.files ≤ 1000000 * 65537 := Nat.le_trans (rused_le hs) (Nat.mul_le_mul_right _ hl)
  have Hfree := Lib.hid (fun w' (hb : Below w.heap.size w w') => refFree_any q R w' (h.below hb) hl hs hm)
  generalize R.wait.length + t.size = WB at hrec hwb
  generalize R.count + (t.size : Int) = CB at hrec hcb
  generalize hFk : R.files[k] = F at hc hs1 hs2 hroom
  have hf0 : w.cell? ⟨g, k * 4, none⟩ = some (.int .i64 F.id) := hc 0 (by omega)
  have hf1 : w.cell? ⟨g, k * 4 + 1, none⟩ = some (.string F.name) := hc 1 (by omega)
  have hf2 : w.cell? ⟨g, k * 4 + 2, none⟩ = some (.string F.last) := hc 2 (by omega)
  have hf3 : w.cell? ⟨g, k * 4 + 3, none⟩ = some (.string F.seen) := hc 3 (by omega)
  have hse1 : secs (a + t.size) ≤ 40000 := by unfold secs; omega
  have hse2 : rsecs F ≤ 65537 := by unfold rsecs secs; omega
  have hat : a + t.size ≤ 2097152 := by omega
  have HTk := Lib.hid (fun w' => refTakes_any F w' hs1 hs2)
  have HTn := Lib.hid (fun w' => refTaken_any (a + t.size) w' (by omega))
  rw [show ((a + t.size : Nat) : Int) = (a : Int) + (t.size : Int) by omega] at HTn
  have KE := Lib.hid (fun w' (hb : Below w.heap.size w w') => (show w'.cell? ⟨q, 0, none⟩ = some (.slice (some ⟨g, 0, none⟩) R.files.length cap) ∧ w'.cell? ⟨g, k * 4, none⟩ = some (.int .i64 F.id) ∧ w'.cell? ⟨g, k * 4 + 1, none⟩ = some (.string F.name) ∧ w'.cell? ⟨g, k * 4 + 2, none⟩ = some (.string F.last) ∧ w'.cell? ⟨g, k * 4 + 3, none⟩ = some (.string F.seen) from
    ⟨(hb.cell (p := ⟨q, 0, none⟩) hql).trans c0, (hb.cell (p := ⟨g, k * 4, none⟩) hgl).trans hf0, (hb.cell (p := ⟨g, k * 4 + 1, none⟩) hgl).trans hf1, (hb.cell (p := ⟨g, k * 4 + 2, none⟩) hgl).trans hf2, (hb.cell (p := ⟨g, k * 4 + 3, none⟩) hgl).trans hf3⟩))
  have Hrec := Lib.hid (fun wx (hb : Below w.heap.size w wx) => show RwAt q R w k t.size RES WB CB R a t wx from ⟨hrec.out.go, hrec.out.dev.below hb, rfl, rfl, hrec.out.small, hrec.out.wait, hrec.out.count, hrec.out.fuse⟩)
  have hkl : (k : Int) < (R.files.length : Int) := by omega
  generalize secs (a + t.size) = A at *
  generalize rsecs F = B at *
  generalize rused R.files = U at *
  clear h hx hc hv hs hct hfu ho hRES hFk hrec
  go_enter Try.func52, Try.ntmps52
  go_wp2_with fail
  refine HF.out.mono ?_
  rintro e w' ⟨rfl, rfl⟩
  go_upto_region 8 with (fail)
  go_cut [49] (fun v wx => v = .bool false ∧ Hid (RwAt q R w k t.size RES WB CB R a t wx))
  case first =>
    by_cases ht0 : t.size = 0
    · have ht := ByteArray.size_eq_zero_iff.1 ht0
      subst ht
      go_quiet (fail)
      go_wp2_with fail
      go_meet
      exact ⟨rfl, Hrec.out _ (below_drewN (Below.refl _ _) _)⟩
    · have hem := isEmpty_false (show 0 < t.size by omega)
      have hem3 : ¬ t.toList = [] := by intro h; rw [h] at hem; simp at hem
      have hgo : ¬ (R.most - (U : Int) < (A : Int) - (B : Int)) := by omega
      have hwrap : IntKind.i64.wrap ((a : Int) + (t.size : Int)) = (a : Int) + (t.size : Int) := IntWalk.i64_in _ (by omega)
      have hwrap2 : IntKind.i64.wrap ((A : Int) - (B : Int)) = (A : Int) - (B : Int) := IntWalk.i64_in _ (by omega)
      go_region_held3 (fun w' => w'.cell? ⟨q, 0, none⟩ = some (.slice (some ⟨g, 0, none⟩) R.files.length cap) ∧ w'.cell? ⟨g, k * 4, none⟩ = some (.int .i64 F.id) ∧ w'.cell? ⟨g, k * 4 + 1, none⟩ = some (.string F.name) ∧ w'.cell? ⟨g, k * 4 + 2, none⟩ = some (.string F.last) ∧ w'.cell? ⟨g, k * 4 + 3, none⟩ = some (.string F.seen))
        (first | exact hS2 | exact hS1 | go_keep)
        (first
          | (go_at_call 68; refine (HTn.out _).mono ?_; rintro e w1 ⟨rfl, rfl⟩)
          | (go_at_call 69; refine (HTk.out _).mono ?_; rintro e w1 ⟨rfl, hb1⟩; have hbw := below_step (Below.refl _ w).drew hb1; have hS1 := KE.out w1 hbw)
          | (go_at_call 57; refine (Hfree.out _ hbw).mono ?_; rintro e w2 ⟨rfl, hb2⟩; have hbw2 := below_step hbw hb2; have hS2 := KE.out w2 hbw2))
      go_wp2_with fail
      go_meet
      exact ⟨by first | rfl | exact congrArg Value.bool (decide_eq_false (by omega)), Hrec.out _ hbw2⟩
  case rest =>
    clear Hrec KE HTk HTn Hfree hroom hgl hf0 hf1 hf2 hf3 c0 hus hse1 hse2 d4 HF hs1 hs2
    obtain ⟨rfl, HR⟩ := hcut
    clear ha hwl
    go_wp2_with fail
    go_loopw [2, 3] (fun x y wr => ∃ (a1 : Nat) (t1 : ByteArray) (R1 : RSt) (m : Nat), x = .int .i64 a1 ∧ y = .string t1 ∧ a1 + t1.size ≤ 2097152 ∧ t1.size ≤ m ∧ Hid (RwAt q R w k m RES WB CB R1 a1 t1 wr)) (fun _ y _ => strLen y)
    case atStart => exact ⟨a, t, R, t.size, rfl, rfl, hat, Nat.le_refl _, HR⟩
    case round =>
      clear HR hat
      obtain ⟨a1, t1, R1, m, rfl, rfl, hfr, hm1, HR⟩ := hrel
      by_cases ht : 0 < t1.size
      · have hem := isEmpty_false ht
        have hem3 : ¬ t1.toList = [] := by intro h; rw [h] at hem; simp at hem
        have hDA := HR.out.dev.at_
        have hi1 : k < R1.files.length := by rw [HR.out.len]; exact hk
        obtain ⟨hn1, hn2, hn3⟩ := room_pos (a := a1) ht
        have c3 : wr.cell? ⟨q, 3, none⟩ = some (.int .i64 R1.fuse) := hDA.blk.cell 3
        have f3 := hDA.blk.free 3
        have c4 : wr.cell? ⟨q, 4, none⟩ = some (.bool R1.off) := hDA.blk.cell 4
        have f4 := hDA.blk.free 4
        have c5 : wr.cell? ⟨q, 5, none⟩ = some (.int .i64 R1.count) := hDA.blk.cell 5
        have f5 := hDA.blk.free 5
        have hcn := HR.out.count
        have hfu := HR.out.fuse
        have Hgo := Lib.hid HR.out.go
        have HDA := Lib.hid hDA
        have hlay : room a1 t1 = min t1.size (64 - a1 % 64) := rfl
        have Hlay := Lib.hid hlay
        generalize room a1 t1 = n at *
        have hq2 : (a1 : Int).tmod 64 = ((a1 % 64 : Nat) : Int) := by rw [Int.tmod_eq_emod_of_nonneg (by omega)]; omega
        have hwn : IntKind.i64.wrap (64 - ((a1 % 64 : Nat) : Int)) = 64 - ((a1 % 64 : Nat) : Int) := IntWalk.i64_in _ (by omega)
        have hcs : (t1.size : Int) < 64 - ((a1 % 64 : Nat) : Int) ∨ ¬ ((t1.size : Int) < 64 - ((a1 % 64 : Nat) : Int)) := by omega
        clear hDA
        go_upto_if 58 with (fail)
        go_cut [10] (fun v wx => v = .int .i64 (n : Int) ∧ wx = wr)
        case first =>
          rcases hcs with h | h
          · go_wp2_with fail
            go_meet
            exact ⟨val_int (by omega), rfl⟩
          · go_wp2_with fail
            go_meet
            exact ⟨val_int (by omega), rfl⟩
        case rest =>
          obtain ⟨rfl, rfl⟩ := hcut
          clear hcs hq2 hwn hlay
          by_cases hf0 : R1.fuse = 0
          · have hg2 := Hgo.out
            rw [rwGo_off hm1 ht hf0] at hg2
            have Hg2 := Lib.hid hg2
            have HD2 := Lib.hid (HR.out.dev.trans (RDev.setNum (R' := { R1 with off := true }) HDA.out 4 (.bool true) rfl rfl rfl rfl rfl))
            rw [hf0] at c3
            clear hg2 hf0
            go_wp2_with fail
            go_ret
            exact ⟨by rw [← Hg2.out]; rfl, _, HD2.out, by rw [← Hg2.out]; rfl⟩
          · have hb0 : (R1.fuse == 0) = false := beq_eq_false_iff_ne.2 hf0
            have Hf0 := Lib.hid hf0
            obtain ⟨fu, hfu2⟩ : ∃ fu, fu = if 0 < R1.fuse then R1.fuse - 1 else R1.fuse := ⟨_, rfl⟩
            have HFU := Lib.hid hfu2
            have hbr := HDA.out.blk.lt
            have hfp : 0 < R1.fuse ∨ ¬ (0 < R1.fuse) := by omega
            clear hfu2 hf0
            go_upto_if 73 with (fail)
            go_cut [] (fun wx => Hid (RDev q R w { R1 with fuse := fu } wx))
            case first =>
              rcases hfp with hfp | hfp
              · have HS1 := Lib.hid (HR.out.dev.trans (RDev.setNum (R' := { R1 with fuse := fu }) HDA.out 3 (.int .i64 (R1.fuse - 1)) (by rw [HFU.out, if_pos hfp]; rfl) rfl rfl rfl rfl))
                go_wp2_with fail
                go_meet
                exact HS1.out
              · have HS1 := Lib.hid (show RDev q R w { R1 with fuse := fu } wc from by
                  have e : ({ R1 with fuse := fu } : RSt) = R1 := by rw [HFU.out, if_neg hfp]
                  rw [e]; exact HR.out.dev)
                go_wp2_with fail
                go_meet
                exact HS1.out
            case rest =>
              have HS1 := hcut
              have c5 : wc.cell? ⟨q, 5, none⟩ = some (.int .i64 R1.count) := HS1.out.at_.blk.cell 5
              have f5 := HS1.out.at_.blk.free 5
              have HS2 := Lib.hid (HS1.out.trans (RDev.setNum (R' := { R1 with fuse := fu, count := R1.count + 1 }) HS1.out.at_ 5 (.int .i64 (R1.count + 1)) rfl rfl rfl rfl rfl))
              clear hcut
              go_upto_region 20 with (fail)
              generalize wc.setCell ⟨q, 5, none⟩ (.int .i64 (R1.count + 1)) = w2 at HS2 ⊢
              clear HS1 c5 f5 c3 f3 c4 f4
              have hD2 := HS2.out.at_
              have c1 : w2.cell? ⟨q, 1, none⟩ = some R1.wv := hD2.blk.cell 1
              obtain ⟨g2, cap2, hv2, hgl2, hc2⟩ := rfile_at hD2 k hi1
              have Hgv2 : Hid (R1.fv = .slice (some ⟨g2, 0, none⟩) R1.files.length cap2) := Lib.hid hv2
              have c0 : w2.cell? ⟨q, 0, none⟩ = some (.slice (some ⟨g2, 0, none⟩) R1.files.length cap2) := by rw [← Hgv2.out]; exact hD2.blk.cell 0
              replace hc2 : ∀ j, j < 4 → w2.cell? ⟨g2, k * 4 + j, none⟩ = (rfVals R1.files[k])[j]? := hc2
              obtain ⟨M, hM⟩ : ∃ M, M = R1.files[k] := ⟨_, rfl⟩
              have HM := Lib.hid hM
              have hsk := HR.out.small _ (List.getElem_mem hi1)
              rw [← hM] at hc2 hsk
              obtain ⟨hsk1, hsk2⟩ := hsk
              have d0 : w2.cell? ⟨g2, k * 4, none⟩ = some (.int .i64 M.id) := hc2 0 (by omega)
              have d3 : w2.cell? ⟨g2, k * 4 + 3, none⟩ = some (.string M.seen) := hc2 3 (by omega)
              have hb2 := hD2.blk.lt
              have hnb : R1.wv.ownBlock ≠ some q := hD2.ne.2
              have hng : R1.wv.ownBlock ≠ some g2 := fun e => row_ne_row hD2.wrow hD2.frow (by decide) e (by show R1.fv.ownBlock = some g2; rw [Hgv2.out]; rfl)
              have hownw : w2.ownsRow 0 96 3 R1.wv R1.wait.length (rpsVals R1.wait) := hD2.wrow
              have Hown := Lib.hid hownw
              have hwl : R1.wait.length ≤ 2000000000 := by have := HR.out.wait; omega
              have hi4 : (n : Int) ≤ (t1.size : Int) := by omega
              have f1 := hD2.blk.free 1
              have hkl2 : (k : Int) < (R1.files.length : Int) := by omega
              obtain ⟨i0, hi0, hz0, hz1, hz2⟩ := info_parts info_rpiece
              have Hi0 := Lib.hid hi0
              have hfa : ∀ o : Obj, (w2.alloc o).drew.frozen? ⟨q, 1, none⟩ = false := fun o => (hD2.blk.alloc o).drew.free 1
              have hfb : ∀ o : Obj, (w2.alloc o).frozen? ⟨q, 1, none⟩ = false := fun o => (hD2.blk.alloc o).free 1
              have H63 := Lib.hid (show R1.wait.length + 1 ≤ maxLen by unfold maxLen; omega)
              have HBY := Lib.hid (show (R1.wait.length + 1) * 32 ≤ 140737488355328 by omega)
              have HBL := Lib.hid (show ∀ o : Obj, q < (w2.alloc o).drew.heap.size from fun o => by
                have : (w2.alloc o).drew.heap.size = w2.heap.size + 1 := by simp
                omega)
              have HSZ := Lib.hid (show ∀ o : Obj, (w2.alloc o).drew.heap.size = w2.heap.size + 1 from fun o => by simp)
              clear hi0 hownw hc2 hM hv2 hD2
              go_cut [] (fun wx => Hid (∃ v', RDev q R w { R1 with fuse := fu, count := R1.count + 1, wv := v', wait := R1.wait ++ [⟨M.id, (a1 : Int), t1.extract 0 n⟩] } wx))
              case first =>
                go_region_law
                  ((refine step_append_lies _ (by rfl) _ _ _ (by rfl) 0 96 i0 _ 3 32 Try.underlying50 Hi0.out hz0 hz1 hz2 rfl (by decide) R1.wv R1.wait.length (rpsVals R1.wait) (by rfl) ((Hown.out.alloc _).drew) ⟨w2.heap.size, 0, none⟩ 1 1 [.int .i64 M.id, .int .i64 (a1 : Int), .string (t1.extract 0 n)] (by rfl) (by rfl) (World.news_of_block (cs := #[.int .i64 M.id, .int .i64 (a1 : Int), .string (t1.extract 0 n)]) (t := 96) (fr := (0, 0)) (heap_alloc_new w2 _)) (by simp [Value.oneCell']) (by decide) H63.out HBY.out (Nat.zero_le _) (w2.heap.size + 1) (HSZ.out _) ?_; intro gg cap w4 hown4 hgrow hat hlt; have hc4 := hgrow.cell_far ⟨q, 1, none⟩ (HBL.out _) (Ne.symm hnb); have hf4 := hgrow.frozen_far ⟨q, 1, none⟩ (HBL.out _) (Ne.symm hnb)))
                all_goals go_wp2_with fail
                all_goals go_meet
                all_goals
                  exact ⟨.slice (some ⟨gg, 0, none⟩) (R1.wait.length + 1) cap, HS2.out.trans (RDev.newWait HS2.out.at_ (by
                    have e1 : (R1.wait ++ [(⟨M.id, (a1 : Int), t1.extract 0 n⟩ : RP)]).length = R1.wait.length + 1 := by simp
                    have e2 : rpsVals (R1.wait ++ [(⟨M.id, (a1 : Int), t1.extract 0 n⟩ : RP)]) = rpsVals R1.wait ++ [.int .i64 M.id, .int .i64 (a1 : Int), .string (t1.extract 0 n)] := by unfold rpsVals; simp [rpVals]
                    rw [e1, e2]
                    exact hown4) (touch_grown (((Touch.refl _ w2).alloc _).drew) hgrow (fun g hg => Or.inl hg)) (fun j hj => by
                      have e : gg = j := by simpa [Value.ownBlock] using hj
                      subst e
                      rcases hat with e | e
                      · exact Or.inl e
                      · right; omega))⟩
              case rest =>
                obtain ⟨v', hD3⟩ := hcut.out
                have HD3 := Lib.hid hD3
                clear hcut hD3 c1 d0 d3 c0 f1 hfa hfb H63 HBY HBL HSZ hnb hng hb2 hz0 hz1 hz2 Hi0 Hown HS2 hgl2
                have hD3 := HD3.out.at_
                obtain ⟨g3, cap3, hv3, hgl3, hc3⟩ := rfile_at hD3 k hi1
                have Hgv3 : Hid (R1.fv = .slice (some ⟨g3, 0, none⟩) R1.files.length cap3) := Lib.hid hv3
                have c0 : wc.cell? ⟨q, 0, none⟩ = some (.slice (some ⟨g3, 0, none⟩) R1.files.length cap3) := by rw [← Hgv3.out]; exact hD3.blk.cell 0
                replace hc3 : ∀ j, j < 4 → wc.cell? ⟨g3, k * 4 + j, none⟩ = (rfVals R1.files[k])[j]? := hc3
                rw [← HM.out] at hc3
                have d3 : wc.cell? ⟨g3, k * 4 + 3, none⟩ = some (.string M.seen) := hc3 3 (by omega)
                have hqc := hD3.blk.lt
                have hes : (t1.extract 0 n).size = n := by rw [ByteArray.size_extract]; omega
                have HLd := Lib.hid (fun w' => refLaid_any M.seen (t1.extract 0 n) a1 w' hsk1 (by rw [hes]; omega))
                have HBR := Lib.hid (fun (w1 : World) (hb : Below wc.heap.size wc w1) => (show w1.cell? ⟨q, 0, none⟩ = some (.slice (some ⟨g3, 0, none⟩) R1.files.length cap3) ∧ w1.cell? ⟨g3, k * 4 + 3, none⟩ = some (.string M.seen) ∧ w1.frozen? ⟨g3, k * 4 + 3, none⟩ = false from
                  ⟨(hb.cell (p := ⟨q, 0, none⟩) hqc).trans c0, (hb.cell (p := ⟨g3, k * 4 + 3, none⟩) hgl3).trans d3, rfree (HD3.out.at_.below hb) Hgv3.out _⟩))
                have HSet := Lib.hid (fun (w1 : World) (hb : Below wc.heap.size wc w1) => (show RDev q R w { R1 with fuse := fu, count := R1.count + 1, wv := v', wait := R1.wait ++ [⟨R1.files[k].id, (a1 : Int), t1.extract 0 n⟩], files := R1.files.set k { R1.files[k] with seen := rlay R1.files[k].seen a1 (t1.extract 0 n) } } (w1.setCell ⟨g3, k * 4 + 3, none⟩ (.string (rlay M.seen a1 (t1.extract 0 n)))) from by
                  have h := HD3.out.trans (RDev.after hb (RDev.setField (HD3.out.at_.below hb) k 3 hi1 (by decide) { R1.files[k] with seen := rlay R1.files[k].seen a1 (t1.extract 0 n) } (.string (rlay M.seen a1 (t1.extract 0 n))) Hgv3.out (by rw [HM.out]; rfl)))
                  rw [HM.out] at h ⊢
                  exact h))
                clear hD3 hv3 hc3
                go_upto_region 21 with (fail)
                go_cut [] (fun wx => Hid (RwAt q R w k (m - 1) RES WB CB { R1 with fuse := fu, count := R1.count + 1, wv := v', wait := R1.wait ++ [⟨R1.files[k].id, (a1 : Int), t1.extract 0 n⟩], files := R1.files.set k { R1.files[k] with seen := rlay R1.files[k].seen a1 (t1.extract 0 n) } } (a1 + n) (t1.extract n t1.size) wx))
                case first =>
                  go_region_with ((go_at_call 70; refine (HLd.out _).mono ?_; rintro e w1 ⟨rfl, hb1⟩; have hbb := below_step ((Below.refl _ wc).drew) hb1; obtain ⟨hq1, hg1, hg2⟩ := HBR.out w1 hbb))
                  all_goals go_wp2_with fail
                  all_goals go_meet
                  all_goals exact rw_end HR.out hi1 (Hlay.out.trans rfl) hm1 ht hfr Hf0.out HFU.out (HSet.out w1 hbb)
                case rest =>
                  have HN := Lib.hid hcut.out
                  clear hcut HSet HBR HLd c0 d3 hes
                  go_wp2_with fail
                  go_roundw
                  case rel => exact ⟨a1 + n, t1.extract n t1.size, _, m - 1, by go_num, rfl, by rw [ByteArray.size_extract]; omega, by rw [ByteArray.size_extract]; omega, HN⟩
                  case measure => simp [strLen, ByteArray.size_extract]; omega
      · have h0 : t1.size = 0 := by omega
        have hgo := HR.out.go
        rw [rwGo_done h0] at hgo
        have Hgo := Lib.hid hgo
        obtain rfl := ByteArray.size_eq_zero_iff.1 h0
        clear hgo h0 ht
        go_wp2_with fail
        go_ret
        exact ⟨by rw [← Hgo.out]; rfl, R1, HR.out.dev, by rw [← Hgo.out]⟩
end Go.Proofs.Ytlmodbaeoheiiaa
