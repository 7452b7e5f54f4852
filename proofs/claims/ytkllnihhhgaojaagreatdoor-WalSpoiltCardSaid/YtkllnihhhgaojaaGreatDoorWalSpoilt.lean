/- The walk of WalSpoilt. No condition. -/
import Derived.Test.YtkllnihhhgaojaaGreatDoorWalBent
namespace Go.Proofs.YtkllnihhhgaojaaGreatDoor
open Go Go.RowKit
set_option linter.unusedVariables false

set_option maxRecDepth 100000 in
set_option maxHeartbeats 4000000 in
theorem walSpoilt_walk (ad : Option Addr) (len cap : Nat) (zs : List ByteArray) (pa py : Int) (w : World) (hl : IsStrs w ad len cap zs) :
    Calls Tryz.prog 3 #[.slice ad len cap, .int .i64 pa, .int .i64 py] w fun e w' => e = .returned (.bool true) ∧ Below w.heap.size w w' := by
  obtain ⟨hsa, hlen, _, hmx, _⟩ := isStrs_at hl
  generalize zs.take len = l at hsa hlen
  subst hlen
  have HL := Lib.hid hsa
  have hmx2 : l.length ≤ 9223372036854775807 := hmx
  clear hl hsa hmx
  have HLd := Lib.hid (laid_run 300 w (by omega))
  go_enter Tryz.func3, Tryz.ntmps3
  go_wp2_with fail
  refine HLd.out.mono ?_
  rintro e w1 ⟨wa, b, kk, mb, lg, rfl, h1⟩
  have H1 := Lib.hid h1
  clear h1 HLd
  go_wp2_with fail
  go_loopw [8] (fun i wr => ∃ k : Nat, k ≤ 20 ∧ k ≤ l.length ∧ i = .int .i64 k ∧ Hid (∃ rs av, Run1 w b kk mb wa lg 300 1 [] rs (37 + k * 337) (1 + k) av rs wr ∧ rs.length ≤ k)) (fun i _ => 20 - (intOf i).toNat)
  case atStart => exact ⟨0, by omega, by omega, rfl, Lib.hid ⟨[], _, H1.out, Nat.le_refl _⟩⟩
  case round =>
    obtain ⟨k, hk20, hkl, rfl, HR⟩ := hrel
    by_cases hlt : k < l.length ∧ k < 20
    · obtain ⟨g1, g2⟩ := hlt
      have g1i : (k : Int) < (l.length : Int) := by omega
      have g2i : (k : Int) < 20 := by omega
      have hR := HR.out
      obtain ⟨rs, av, hR, hrl⟩ := hR
      have HR1 := Lib.hid hR
      have c2 : wr.cell? ⟨wa, 2, none⟩ = some (.pointer (some ⟨lg, 0, none⟩)) := hR.cells.cell 2
      rcases strsAt_below HL.out hR.bel with h0 | ⟨g, off, rfl, hgl, hc⟩
      · rw [h0] at g1; simp at g1
      · have cs := hc k g1
        have HC := Lib.hid (fun W => wcut_any l[k] W)
        have hcz := wcut_size l[k]
        have HSt := Lib.hid (fun (W : World) (hb : Below w.heap.size w W) => (show W.cell? ⟨g, off + k, none⟩ = some (.string l[k]) from by
          rcases strsAt_below HL.out hb with h0 | ⟨g', off', e, hgl', hc'⟩
          · rw [h0] at g1; simp at g1
          · injection e with e
            injection e with e1 e2 _
            subst e1
            subst e2
            exact hc' k g1))
        generalize l[k] = s at cs HC hcz HSt
        generalize wcut s = c at HC hcz
        have HAp := Lib.hid (fun (W : World) (hb : Hid (Below wr.heap.size wr W)) => (show Calls Tryz.prog 11 #[.pointer (some ⟨lg, 0, none⟩), .string c] W fun e w' => ∃ r, e = .returned (.int .i64 r) ∧ (w'.cell? ⟨wa, 2, none⟩ = some (.pointer (some ⟨lg, 0, none⟩)) ∧ w'.cell? ⟨g, off + k, none⟩ = some (.string s)) ∧ Hid ((r = 0 ∧ Run1 w b kk mb wa lg 300 1 [] (rs ++ [c]) (37 + (k + 1) * 337) (1 + (k + 1)) av rs w') ∨ (r = 7 ∧ Run1 w b kk mb wa lg 300 1 [] rs (37 + (k + 1) * 337) (1 + (k + 1)) av rs w')) from by
          refine ((HR1.out.below hb.out).append (t := c) (by omega) (by omega) (by omega)).mono ?_
          rintro e w' (⟨rfl, P, Bk, s', mk, n, h1, h2, h3, h4, h5, h6, h7⟩ | ⟨rfl, P, Bk, s', mk, n, h1, h2, h3, h4, h5, h6, h7⟩)
          · exact ⟨0, rfl, ⟨h1.wat.cell 2, HSt.out _ h1.own.bel⟩, Lib.hid (Or.inl ⟨rfl, P, Bk, s', mk, n, h1, h2, h3, h4, by omega, by omega, by omega⟩)⟩
          · exact ⟨7, rfl, ⟨h1.wat.cell 2, HSt.out _ h1.own.bel⟩, Lib.hid (Or.inr ⟨rfl, P, Bk, s', mk, n, h1, h2, h3, h4, by omega, by omega, by omega⟩)⟩))
        have hA0 : Hid (Below wr.heap.size wr wr.drew) := Lib.hid (Below.refl _ wr).drew
        clear hc hR hcz
        go_upto_region 7 with (fail)
        go_region_held3 (fun w' => w'.cell? ⟨wa, 2, none⟩ = some (.pointer (some ⟨lg, 0, none⟩)) ∧ w'.cell? ⟨g, off + k, none⟩ = some (.string s))
          (first | exact hc2 | go_keep)
          (first
            | (go_at_call 12; refine (HC.out _).mono ?_; rintro e w2 ⟨rfl, rfl⟩)
            | (go_at_call 11; refine (HAp.out _ (by assumption)).mono ?_; rintro e w3 ⟨r, rfl, hc2, h3⟩))
        clear HAp hA0 cs c2
        rcases h3.out with ⟨rfl, h4⟩ | ⟨rfl, h4⟩
        · have H4 := Lib.hid h4
          clear h3 h4
          have hown := H4.out.row
          obtain ⟨ua, uc, hu⟩ := row_shape hown
          subst hu
          have c3 : w3.cell? ⟨wa, 3, none⟩ = some (.slice ua rs.length uc) := H4.out.cells.cell 3
          obtain ⟨_, cs3⟩ := hc2
          have f3 : w3.frozen? ⟨wa, 3, none⟩ = false := H4.out.cells.free 3
          have hwl := H4.out.cells.lt
          have hrw : (Value.slice ua rs.length uc).ownBlock ≠ some wa := row_ne hown H4.out.cells (by decide)
          have hfa : ∀ o : Obj, (w3.alloc o).drew.frozen? ⟨wa, 3, none⟩ = false := fun o => (Blk.drew (Blk.alloc H4.out.cells o)).free 3
          have hbase3 : w.heap.size ≤ w3.heap.size := H4.out.bel.size
          obtain ⟨i0, hi0, hz0, hz1, hz2⟩ := info_parts info_strD
          go_upto_region 8 with (fail)
          go_region_law (first
            | (refine step_append_lies _ (by rfl) _ _ _ (by rfl) w.heap.size 9 i0 _ 1 16 Tryz.underlying22 hi0 hz0 hz1 hz2 rfl (by omega) (.slice ua rs.length uc) rs.length (strVals rs) (by rfl) ((hown.alloc _).drew) ⟨w3.heap.size, 0, none⟩ 1 1 [.string c] (by rfl) (by rfl) (World.news_of_block (cs := #[.string c]) (t := 9) (fr := (0, 0)) (heap_alloc_new w3 _)) (by simp [Value.oneCell']) (by omega) (by unfold maxLen; omega) (by omega) (by simp; omega) (w3.heap.size + 1) (by simp) ?_; intro gg ucap w4 hown4 hgrow hat hlt; have hc4 := hgrow.cell_far ⟨wa, 3, none⟩ (by simp; omega) (Ne.symm hrw); have hf4 := hgrow.frozen_far ⟨wa, 3, none⟩ (by simp; omega) (Ne.symm hrw))
            | (go_simp; go_at_call 12; refine (HC.out _).mono ?_; rintro e w4 ⟨rfl, rfl⟩))
          all_goals go_wp2_with fail
          all_goals go_roundw
          all_goals first
            | (refine ⟨k + 1, by omega, by omega, by go_num, Lib.hid ⟨_, _, H4.out.push (((Below.refl _ w3).alloc (Nat.le_refl _) _).drew) hgrow hown4 (hat.imp id (fun e => by omega)), by rw [List.length_append]; simp; omega⟩⟩)
            | (simp [intOf]; omega)
        · have H4 := Lib.hid h4
          clear h3 h4 hc2
          go_wp2_with fail
          go_roundw
          case rel => exact ⟨k + 1, by omega, by omega, by go_num, Lib.hid ⟨_, _, H4.out, by omega⟩⟩
          case measure => simp [intOf]; omega
    · have hcs : ¬ k < l.length ∨ (k < l.length ∧ ¬ k < 20) := by omega
      clear hlt
      obtain ⟨rs, av, ⟨P, Bk, s, mk, n, h1, h2, h3, h4, h5, h6, h7⟩, hrl⟩ := HR.out
      clear HR
      go_upto_region 5 with (fail)
      go_cut [22] (fun v wx => v = .bool false ∧ wr = wx)
      case first =>
        clear h1 h2 h3 h4
        rcases hcs with h | ⟨h, h'⟩
        · have hi : ¬ ((k : Int) < (l.length : Int)) := by omega
          go_wp2_with fail
          go_meet
          exact ⟨rfl, rfl⟩
        · have hi : (k : Int) < (l.length : Int) := by omega
          have hi2 : ¬ ((k : Int) < 20) := by omega
          go_wp2_with fail
          go_meet
          exact ⟨rfl, rfl⟩
      case rest =>
        obtain ⟨rfl, rfl⟩ := hcut
        clear hcs
        obtain ⟨ua, uc, hu⟩ := row_shape h1.row
        subst hu
        obtain ⟨y1, y2, y3, y4, y5⟩ := h2.syncR
        have hnb : n ≤ 200000000 := by omega
        have ew : wname 1 = ⟨#[115, 101, 103, 45, 48, 48, 48, 48, 48, 48, 48, 49]⟩ := by kernel_rfl
        have HSy := Lib.hid (show Calls Tryz.prog 13 #[.pointer (some ⟨lg, 0, none⟩)] wr fun e w' => e = .returned (.int .i64 0) ∧ Hid (Run w b kk mb wa lg P.syncR.2 Bk ⟨1, s.length, mk⟩ n (.slice ua rs.length uc) rs w') from by
          refine (h1.sync (by omega)).mono ?_
          rw [y1]
          rintro e w' ⟨rfl, h9⟩
          exact ⟨rfl, Lib.hid h9⟩)
        generalize P.syncR.2 = P1 at y2 y3 y4 y5 HSy
        obtain ⟨i0, v0, ob⟩ := y2.bent y3 y4 pa py
        have HSp := Lib.hid (fun (W : World) (h8 : Hid (Run w b kk mb wa lg P1 Bk ⟨1, s.length, mk⟩ n (.slice ua rs.length uc) rs W)) => (show Calls Tryz.prog 14 #[.pointer (some ⟨b, 0, none⟩), .string ⟨#[115, 101, 103, 45, 48, 48, 48, 48, 48, 48, 48, 49]⟩, .int .i64 pa, .int .i64 py] W fun e w' => (∃ q, e = .returned (.int .i64 q)) ∧ Hid (Run w b kk mb wa lg (P1.spoil (wname 1) pa py).2 Bk ⟨1, s.length, mk⟩ n (.slice ua rs.length uc) rs w') from by
          rw [← ew]
          refine (h8.out.spoil (by omega) (wname 1) pa py).mono ?_
          rintro e w' ⟨rfl, h9⟩
          exact ⟨⟨_, rfl⟩, Lib.hid h9⟩))
        generalize (P1.spoil (wname 1) pa py).2 = P2 at ob HSp
        obtain ⟨r, P3, L2, out, eo, hcase⟩ := ob.open_bent (by omega) h3 (by omega)
        have hol : out.length ≤ rs.length := by
          rcases hcase with ⟨_, rfl⟩ | ⟨_, hpre⟩
          · exact Nat.zero_le _
          · exact hpre.length_le
        have HOp := Lib.hid (fun (w4 W : World) (h8 : Hid (Run w b kk mb wa lg P2 Bk ⟨1, s.length, mk⟩ n (.slice ua rs.length uc) rs w4)) (hb : Hid (Below w4.heap.size w4 W)) => (show Calls Tryz.prog 15 #[.pointer (some ⟨b, 0, none⟩), .pointer (some ⟨kk, 0, none⟩)] W fun e w' => ∃ pv sa sc, e = .returned (.tuple #[pv, .slice sa out.length sc, .int .i64 r]) ∧ (w'.cell? ⟨wa, 0, none⟩ = some (.pointer (some ⟨b, 0, none⟩)) ∧ w'.cell? ⟨wa, 1, none⟩ = some (.pointer (some ⟨kk, 0, none⟩))) ∧ w'.cell? ⟨wa, 3, none⟩ = some (.slice ua rs.length uc) ∧ Hid (StrsAt w' sa out ∧ StrsAt w' ua rs ∧ Below w.heap.size w w') from by
          refine ((h8.out.below hb.out).open3 (by omega) (by omega) eo).mono ?_
          rintro e w' ⟨⟨v1, v2⟩, rfl, hc, h9⟩
          obtain ⟨va2, vc2, e9, hs2⟩ := readsStrs_own h9.row
          injection e9 with e9 _ _
          subst e9
          rcases hcase with ⟨hr8, rfl⟩ | ⟨hr0, _⟩
          · rcases hc with ⟨_, e9⟩ | ⟨h0, _⟩
            · injection e9 with e9 e10
              subst e9
              subst e10
              exact ⟨_, none, 0, rfl, ⟨h9.wat.cell 0, h9.wat.cell 1⟩, h9.wat.cell 3, Lib.hid ⟨Or.inl rfl, hs2, h9.own.bel⟩⟩
            · exfalso; omega
          · rcases hc with ⟨h0, _⟩ | ⟨_, lg2, e9, hv⟩
            · exact absurd hr0 h0
            · obtain ⟨va, vc, e10, hs1⟩ := readsStrs_own (ss := out) hv
              have e10' : v2 = .slice va out.length vc := e10
              subst e10'
              exact ⟨_, va, vc, rfl, ⟨h9.wat.cell 0, h9.wat.cell 1⟩, h9.wat.cell 3, Lib.hid ⟨hs1, hs2, h9.own.bel⟩⟩))
        have HBg := Lib.hid (fun (hpre : out <+: rs) (va : Option Addr) (vc : Nat) (W : World) (h8 : Hid (StrsAt W va out ∧ StrsAt W ua rs ∧ Below w.heap.size w W)) => (show Calls Tryz.prog 17 #[.slice va out.length vc, .slice ua rs.length uc, .int .i64 0] W fun e w' => e = .returned (.bool true) ∧ Hid (Below w.heap.size w w') from by
          refine (begins_any va vc out ua uc rs 0 W h8.out.1 h8.out.2.1 (by omega)).mono ?_
          rintro e w' ⟨rfl, h9⟩
          exact ⟨by unfold beginsB; rw [decide_eq_true ⟨hpre.length_le, by omega, hpre⟩], Lib.hid (below_step h8.out.2.2 h9)⟩))
        have HAw := Lib.hid (fun (W : World) (hb : Below w.heap.size w W) => (wawake_any W).mono (fun e w' (h : e = .returned (.bool true) ∧ Below W.heap.size W w') => (show e = .returned (.bool true) ∧ Below w.heap.size w w' from ⟨h.1, below_step hb h.2⟩)))
        have d2 : wr.cell? ⟨wa, 2, none⟩ = some (.pointer (some ⟨lg, 0, none⟩)) := h1.wat.cell 2
        have HC := Lib.hid hcase
        clear h1 h2 h3 h4 h5 h6 h7 y1 y2 y3 y4 y5 ob eo hcase ew hol hrl hnb
        go_wp2_with fail
        refine HSy.out.mono ?_
        rintro e w4 ⟨rfl, h4⟩
        clear d2 HSy
        have d0 : w4.cell? ⟨wa, 0, none⟩ = some (.pointer (some ⟨b, 0, none⟩)) := h4.out.wat.cell 0
        go_wp2_with fail
        refine (HSp.out _ h4).mono ?_
        rintro e w5 ⟨⟨q, rfl⟩, h5⟩
        clear d0 HSp h4
        have d0 : w5.cell? ⟨wa, 0, none⟩ = some (.pointer (some ⟨b, 0, none⟩)) := h5.out.wat.cell 0
        have d1 : w5.cell? ⟨wa, 1, none⟩ = some (.pointer (some ⟨kk, 0, none⟩)) := h5.out.wat.cell 1
        have hA5 : Hid (Below w5.heap.size w5 w5.drew) := Lib.hid (Below.refl _ w5).drew
        have HOp5 := Lib.hid (fun W hb => HOp.out w5 W h5 hb)
        go_upto_region 11 with (fail)
        go_region_held3 (fun w' => w'.cell? ⟨wa, 0, none⟩ = some (.pointer (some ⟨b, 0, none⟩)) ∧ w'.cell? ⟨wa, 1, none⟩ = some (.pointer (some ⟨kk, 0, none⟩)))
          (first | exact hc6 | go_keep)
          ((go_at_call 15; refine (HOp5.out _ (by assumption)).mono ?_; rintro e w6 ⟨pv, va, vc, rfl, hc6, hc63, h6⟩))
        clear HOp HOp5 hA5 d0 d1 hc6 h5
        rcases HC.out with ⟨rfl, rfl⟩ | ⟨rfl, hpre⟩
        · have HAw6 := Lib.hid (HAw.out _ h6.out.2.2)
          clear HBg
          go_wp2_with fail
          refine HAw6.out.mono ?_
          rintro e w8 ⟨rfl, h8⟩
          go_wp2_with fail
          go_ret
          exact ⟨rfl, h8⟩
        · have HBg6 := Lib.hid (HBg.out hpre va vc _ h6)
          clear HBg HC hpre
          go_wp2_with fail
          refine HBg6.out.mono ?_
          rintro e w7 ⟨rfl, h7⟩
          go_wp2_with fail
          refine (HAw.out _ h7.out).mono ?_
          rintro e w8 ⟨rfl, h8⟩
          go_wp2_with fail
          go_ret
          exact ⟨rfl, h8⟩
end Go.Proofs.YtkllnihhhgaojaaGreatDoor
