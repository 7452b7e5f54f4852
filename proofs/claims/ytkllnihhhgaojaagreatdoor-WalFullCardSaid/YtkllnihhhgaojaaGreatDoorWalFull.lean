/- The walk of WalFull. Condition: the text's length. -/
import Derived.Test.YtkllnihhhgaojaaGreatDoorWalRun
namespace Go.Proofs.YtkllnihhhgaojaaGreatDoor
open Go Go.RowKit
set_option linter.unusedVariables false

def ntN : Nat := 3840
def ntObj : Obj := .cells (Array.replicate ntN (Value.int .u8 0)) 5
def ntS : ByteArray := zeros ntN
theorem ntS_size : ntS.size = 3840 := zeros_size ntN
theorem nt_make (W : World) : (Instr.makeSlice 61 (.int .i64 3840) (.int .i64 3840)).run Tryz.prog W = .ok (.slice (some ⟨W.heap.size, 0, none⟩) ntN ntN) (W.alloc ntObj) :=
  run_make_one (P := Tryz.prog) 61 5 (.int .u8 0) 1 Tryz.underlying61 info_byte rfl ntN (by unfold ntN; omega) (by unfold ntN; omega) W
theorem nt_conv (W : World) : (convert 61 9 (.slice (some ⟨W.heap.size, 0, none⟩) ntN ntN)).run Tryz.prog (W.alloc ntObj) = .ok (.string ntS) (W.alloc ntObj) :=
  conv_zeros (P := Tryz.prog) W 61 5 9 Tryz.underlying61 Tryz.underlying5 Tryz.underlying9 ntN
theorem nt_conv2 (W : World) : (convert 61 9 (.slice (some ⟨W.heap.size, 0, none⟩) ntN ntN)).run Tryz.prog (W.alloc ntObj).drew = .ok (.string ntS) (W.alloc ntObj).drew := by
  have h := run_convert_bytes_back (P := Tryz.prog) (W.alloc ntObj).drew 61 9 5 ⟨W.heap.size, 0, none⟩ ntN (List.replicate ntN 0) Tryz.underlying61 Tryz.underlying5 Tryz.underlying9 (by
    intro j hj
    have e : (W.alloc ntObj).drew.cell? ⟨W.heap.size, j, none⟩ = (W.alloc ntObj).cell? ⟨W.heap.size, j, none⟩ := rfl
    rw [addr_add, e]
    unfold ntObj
    rw [World.cell?_alloc_new]
    simp at hj
    simp [hj])
  rw [List.length_replicate] at h
  exact h
attribute [irreducible] ntS ntObj ntN

theorem full_turn {P : PS} {Bk recs : List ByteArray} {s : List UInt8} {mk : ByteArray} {most : Int} (h2 : One P 1 s most) (h3 : Chn Bk 1 recs s mk) (hm : most ≤ 60) : ∃ P' B', wturn P Bk ⟨1, s.length, mk⟩ [ntS] = ⟨7, P', B', ⟨1, s.length, mk⟩⟩ ∧ One P' 1 s most ∧ Chn B' 1 recs s mk ∧ B'.length ≤ Bk.length + 2 := by
  obtain ⟨hc, hv⟩ := h2.calm
  have hr : recsLen [ntS] = 3877 := by
    have : recsLen [ntS] = ntS.size + 37 := rfl
    rw [this, ntS_size]
  obtain ⟨B', hg, hl, ⟨r, _⟩ | ⟨r, P', L', e, hc', hv'⟩⟩ := hc.begin (n := 2) (by
      rw [hv]
      intro x hx
      rw [List.mem_singleton.1 hx]
      show wname 1 ≠ wname 2
      decide) Bk [ntS] (fun t ht => by rw [List.mem_singleton.1 ht, ntS_size]; omega) (by rw [hr]; omega)
  · rw [hr] at r
    have h62 : secs (3877 + 37) = 62 := rfl
    rw [h62] at r
    omega
  · refine ⟨P', B', ?_, hc'.one (by rw [hv', hv]), hg _ _ _ _ h3, hl⟩
    unfold wturn
    rw [if_neg (show ¬ ((1 : Nat) = 99999999) by decide)]
    have e2 : wbegin P Bk ((⟨1, s.length, mk⟩ : LG).n + 1) [ntS] = ⟨7, P', B', L'⟩ := e
    rw [e2, if_pos (show (7 : Int) ≠ 0 by decide)]
theorem full_append {P : PS} {Bk recs : List ByteArray} {s : List UInt8} {mk t : ByteArray} {most : Int} (h2 : One P 1 s most) (h3 : Chn Bk 1 recs s mk) (hm : most ≤ 60) (ht : 3840 ≤ t.size) (hs : s.length ≤ 20000) :
    ∃ B' r, wappend P Bk ⟨1, s.length, mk⟩ t = ⟨r, P, B', ⟨1, s.length, mk⟩⟩ ∧ Chn B' 1 recs s mk ∧ B'.length ≤ Bk.length + 1 ∧ ((r = 4 ∧ 1048832 < t.size) ∨ r = 7) := by
  by_cases h : 1048832 < t.size
  · exact ⟨Bk, 4, wput_long (putAcc_long h), h3, by omega, Or.inl ⟨rfl, h⟩⟩
  · obtain ⟨B', hg, hl, ⟨r, _⟩ | ⟨_, e, hc⟩⟩ := h2.append h3 (t := t) (by omega) (by omega)
    · have : secs 3877 ≤ secs (s.length + (t.size + 37)) := secs_mono (by omega)
      have h61 : secs 3877 = 61 := rfl
      omega
    · exact ⟨B', 7, e, hc, hl, Or.inr rfl⟩

theorem blk_two (W : World) (o : Obj) (c : Value) (T : TypeId) : Blk ((W.alloc o).alloc (.cells #[c] T)).drew (W.heap.size + 1) [c] T := by
  have h := Blk.drew (Blk.new (W.alloc o) [c] T)
  have e : (W.alloc o).heap.size = W.heap.size + 1 := by simp
  rw [e] at h
  exact h
theorem below_two (W : World) (o o2 : Obj) : Below W.heap.size W ((W.alloc o).alloc o2).drew := (((Below.refl _ W).alloc (Nat.le_refl _) o).alloc (by simp) o2).drew
set_option maxRecDepth 100000 in
set_option maxHeartbeats 4000000 in
theorem walFull_walk (m : Int) (ad : Option Addr) (len cap : Nat) (zs : List ByteArray) (t : ByteArray) (w : World) (hmw : (Lit.int .i64 m).wf = true) (hl : IsStrs w ad len cap zs) (hts : t.size ≤ 140737488351232) :
    Calls Tryz.prog 8 #[.int .i64 m, .slice ad len cap, .string t] w fun e w' => e = .returned (.bool true) ∧ Below w.heap.size w w' := by
  by_cases hm : m < 10 ∨ 60 < m
  · have hd : (decide (m < 10) || decide (60 < m)) = true := by simp only [Bool.or_eq_true, decide_eq_true_eq]; exact hm
    have HAw := Lib.hid (wawake_any w)
    rcases hm with h | h
    · clear hd hl hts
      go_enter Tryz.func8, Tryz.ntmps8
      go_wp2_with fail
      refine HAw.out.mono ?_
      rintro e w1 ⟨rfl, hb⟩
      go_wp2_with fail
      go_ret
      exact ⟨rfl, hb⟩
    · have h2 : ¬ m < 10 := by omega
      clear hd hl hts
      go_enter Tryz.func8, Tryz.ntmps8
      go_wp2_with fail
      refine HAw.out.mono ?_
      rintro e w1 ⟨rfl, hb⟩
      go_wp2_with fail
      go_ret
      exact ⟨rfl, hb⟩
  · have hm1 : ¬ m < 10 := by omega
    have hm2 : ¬ 60 < m := by omega
    have hm3 : m ≤ 60 := by omega
    obtain ⟨hsa, hlen, _, hmx, _⟩ := isStrs_at hl
    generalize zs.take len = l at hsa hlen
    subst hlen
    have HL := Lib.hid hsa
    have hmx2 : l.length ≤ 9223372036854775807 := hmx
    clear hm hl hsa hmx
    have HLd := Lib.hid (laid_run m w (by omega))
    go_enter Tryz.func8, Tryz.ntmps8
    go_wp2_with fail
    refine HLd.out.mono ?_
    rintro e w1 ⟨wa, b, kk, mb, lg, rfl, h1⟩
    have H1 := Lib.hid h1
    clear h1 HLd
    go_wp2_with fail
    go_loopw [8] (fun i wr => ∃ k : Nat, k ≤ 30 ∧ k ≤ l.length ∧ i = .int .i64 k ∧ Hid (∃ rs av, Run1 w b kk mb wa lg m 1 [] rs (37 + k * 337) (1 + k) av rs wr ∧ rs.length ≤ k)) (fun i _ => 30 - (intOf i).toNat)
    case atStart => exact ⟨0, by omega, by omega, rfl, Lib.hid ⟨[], _, H1.out, Nat.le_refl _⟩⟩
    case round =>
      obtain ⟨k, hk30, hkl, rfl, HR⟩ := hrel
      by_cases hlt : k < l.length ∧ k < 30
      · obtain ⟨g1, g2⟩ := hlt
        have g1i : (k : Int) < (l.length : Int) := by omega
        have g2i : (k : Int) < 30 := by omega
        have hR := HR.out
        obtain ⟨rs, av, hR, hrl⟩ := hR
        have HR1 := Lib.hid hR
        have c2 : wr.cell? ⟨wa, 2, none⟩ = some (.pointer (some ⟨lg, 0, none⟩)) := hR.cells.cell 2
        rcases strsAt_below HL.out hR.bel with h0 | ⟨g, off, rfl, hgl, hc⟩
        · rw [h0] at g1; simp at g1
        · have cs := hc k g1
          have HC := Lib.hid (fun W => wcut_any l[k] W)
          have hcz := wcut_size l[k]
          have HSt := Lib.hid (fun (W : World) (hb : Below w.heap.size w W) => (show W.cell? ⟨g, off + k, none⟩ = some (.string l[k]) from by
            rcases strsAt_below HL.out hb with h0 | ⟨g', off', e, hgl', hc'⟩
            · rw [h0] at g1; simp at g1
            · injection e with e
              injection e with e1 e2 _
              subst e1
              subst e2
              exact hc' k g1))
          generalize l[k] = s at cs HC hcz HSt
          generalize wcut s = c at HC hcz
          have HAp := Lib.hid (fun (W : World) (hb : Hid (Below wr.heap.size wr W)) => (show Calls Tryz.prog 11 #[.pointer (some ⟨lg, 0, none⟩), .string c] W fun e w' => ∃ r, e = .returned (.int .i64 r) ∧ (w'.cell? ⟨wa, 2, none⟩ = some (.pointer (some ⟨lg, 0, none⟩)) ∧ w'.cell? ⟨g, off + k, none⟩ = some (.string s)) ∧ Hid ((r = 0 ∧ Run1 w b kk mb wa lg m 1 [] (rs ++ [c]) (37 + (k + 1) * 337) (1 + (k + 1)) av rs w') ∨ (r = 7 ∧ Run1 w b kk mb wa lg m 1 [] rs (37 + (k + 1) * 337) (1 + (k + 1)) av rs w')) from by
            refine ((HR1.out.below hb.out).append (t := c) (by omega) (by omega) (by omega)).mono ?_
            rintro e w' (⟨rfl, P, Bk, s', mk, n, h1, h2, h3, h4, h5, h6, h7⟩ | ⟨rfl, P, Bk, s', mk, n, h1, h2, h3, h4, h5, h6, h7⟩)
            · exact ⟨0, rfl, ⟨h1.wat.cell 2, HSt.out _ h1.own.bel⟩, Lib.hid (Or.inl ⟨rfl, P, Bk, s', mk, n, h1, h2, h3, h4, by omega, by omega, by omega⟩)⟩
            · exact ⟨7, rfl, ⟨h1.wat.cell 2, HSt.out _ h1.own.bel⟩, Lib.hid (Or.inr ⟨rfl, P, Bk, s', mk, n, h1, h2, h3, h4, by omega, by omega, by omega⟩)⟩))
          have hA0 : Hid (Below wr.heap.size wr wr.drew) := Lib.hid (Below.refl _ wr).drew
          clear hc hR hcz
          go_upto_region 9 with (fail)
          go_region_held3 (fun w' => w'.cell? ⟨wa, 2, none⟩ = some (.pointer (some ⟨lg, 0, none⟩)) ∧ w'.cell? ⟨g, off + k, none⟩ = some (.string s))
            (first | exact hc2 | go_keep)
            (first
              | (go_at_call 12; refine (HC.out _).mono ?_; rintro e w2 ⟨rfl, rfl⟩)
              | (go_at_call 11; refine (HAp.out _ (by assumption)).mono ?_; rintro e w3 ⟨r, rfl, hc2, h3⟩))
          clear HAp hA0 cs c2
          rcases h3.out with ⟨rfl, h4⟩ | ⟨rfl, h4⟩
          · have H4 := Lib.hid h4
            clear h3 h4
            have hown := H4.out.row
            obtain ⟨ua, uc, hu⟩ := row_shape hown
            subst hu
            have c3 : w3.cell? ⟨wa, 3, none⟩ = some (.slice ua rs.length uc) := H4.out.cells.cell 3
            obtain ⟨_, cs3⟩ := hc2
            have f3 : w3.frozen? ⟨wa, 3, none⟩ = false := H4.out.cells.free 3
            have hwl := H4.out.cells.lt
            have hrw : (Value.slice ua rs.length uc).ownBlock ≠ some wa := row_ne hown H4.out.cells (by decide)
            have hfa : ∀ o : Obj, (w3.alloc o).drew.frozen? ⟨wa, 3, none⟩ = false := fun o => (Blk.drew (Blk.alloc H4.out.cells o)).free 3
            have hbase3 : w.heap.size ≤ w3.heap.size := H4.out.bel.size
            obtain ⟨i0, hi0, hz0, hz1, hz2⟩ := info_parts info_strD
            go_upto_region 10 with (fail)
            go_region_law (first
              | (refine step_append_lies _ (by rfl) _ _ _ (by rfl) w.heap.size 9 i0 _ 1 16 Tryz.underlying22 hi0 hz0 hz1 hz2 rfl (by omega) (.slice ua rs.length uc) rs.length (strVals rs) (by rfl) ((hown.alloc _).drew) ⟨w3.heap.size, 0, none⟩ 1 1 [.string c] (by rfl) (by rfl) (World.news_of_block (cs := #[.string c]) (t := 9) (fr := (0, 0)) (heap_alloc_new w3 _)) (by simp [Value.oneCell']) (by omega) (by unfold maxLen; omega) (by omega) (by simp; omega) (w3.heap.size + 1) (by simp) ?_; intro gg ucap w4 hown4 hgrow hat hlt; have hc4 := hgrow.cell_far ⟨wa, 3, none⟩ (by simp; omega) (Ne.symm hrw); have hf4 := hgrow.frozen_far ⟨wa, 3, none⟩ (by simp; omega) (Ne.symm hrw))
              | (go_simp; go_at_call 12; refine (HC.out _).mono ?_; rintro e w4 ⟨rfl, rfl⟩))
            all_goals go_wp2_with fail
            all_goals go_roundw
            all_goals first
              | (refine ⟨k + 1, by omega, by omega, by go_num, Lib.hid ⟨_, _, H4.out.push (((Below.refl _ w3).alloc (Nat.le_refl _) _).drew) hgrow hown4 (hat.imp id (fun e => by omega)), by rw [List.length_append]; simp; omega⟩⟩)
              | (simp [intOf]; omega)
          · have H4 := Lib.hid h4
            clear h3 h4 hc2
            go_wp2_with fail
            go_roundw
            case rel => exact ⟨k + 1, by omega, by omega, by go_num, Lib.hid ⟨_, _, H4.out, by omega⟩⟩
            case measure => simp [intOf]; omega
      · have hcs : ¬ k < l.length ∨ (k < l.length ∧ ¬ k < 30) := by omega
        clear hlt
        obtain ⟨rs, av, ⟨P, Bk, s, mk, n, h1, h2, h3, h4, h5, h6, h7⟩, hrl⟩ := HR.out
        clear HR
        go_upto_region 7 with (fail)
        go_cut [34] (fun v wx => v = .bool false ∧ wr = wx)
        case first =>
          clear h1 h2 h3 h4
          rcases hcs with h | ⟨h, h'⟩
          · have hi : ¬ ((k : Int) < (l.length : Int)) := by omega
            go_wp2_with fail
            go_meet
            exact ⟨rfl, rfl⟩
          · have hi : (k : Int) < (l.length : Int) := by omega
            have hi2 : ¬ ((k : Int) < 30) := by omega
            go_wp2_with fail
            go_meet
            exact ⟨rfl, rfl⟩
        case rest =>
          obtain ⟨rfl, rfl⟩ := hcut
          clear hcs
          obtain ⟨ua, uc, hu⟩ := row_shape h1.row
          subst hu
          have hts2 : (t ++ ntS).size = t.size + 3840 := by rw [ByteArray.size_append, ntS_size]
          obtain ⟨B1, r, e1, c1, l1, hr⟩ := full_append (t := t ++ ntS) h2 h3 hm3 (by omega) (by omega)
          obtain ⟨P2, B2, e2, o2, c2, l2⟩ := full_turn h2 c1 hm3
          have HR1 := Lib.hid h1
          have HAp := Lib.hid (fun (W : World) (hb : Below wr.heap.size wr W) => (show Calls Tryz.prog 11 #[.pointer (some ⟨lg, 0, none⟩), .string (t ++ ntS)] W fun e w' => e = .returned (.int .i64 r) ∧ Hid (Run w b kk mb wa lg P B1 ⟨1, s.length, mk⟩ (n + 2097152) (.slice ua rs.length uc) rs w') from by
            refine ((HR1.out.below hb).append h4 (by omega) (by omega) (t ++ ntS)).mono ?_
            rw [e1]
            rintro e w' ⟨rfl, h8⟩
            exact ⟨rfl, Lib.hid h8⟩))
          have HTn := Lib.hid (fun (w3 W : World) (q : Nat) (h8 : Hid (Run w b kk mb wa lg P B1 ⟨1, s.length, mk⟩ (n + 2097152) (.slice ua rs.length uc) rs w3)) (hb : Below w3.heap.size w3 W) (hq : Blk W q [.string ntS] 9) => (show Calls Tryz.prog 19 #[.pointer (some ⟨lg, 0, none⟩), .slice (some ⟨q, 0, none⟩) 1 1] W fun e w' => e = .returned (.int .i64 7) ∧ Hid (Run w b kk mb wa lg P2 B2 ⟨1, s.length, mk⟩ (n + 2097152 + 4194305) (.slice ua rs.length uc) rs w') from by
            refine ((h8.out.below hb).turn (T := 9) (cs := [.string ntS]) h4 (by omega) (snap := [ntS]) (off := 0) (cap := 1) (Or.inr ⟨q, 0, rfl, hq.lt, fun i hi => ?_⟩) hq (by show 1 ≤ 100000; omega) (by show B1.length + 1 + 1 ≤ _; omega)).mono ?_
            · have h0 : i = 0 := by simpa using hi
              subst h0
              exact hq.cell 0
            · rw [e2]
              rintro e w' ⟨rfl, h9⟩
              exact ⟨rfl, Lib.hid h9⟩))
          obtain ⟨y1, y2, y3, y4, y5⟩ := o2.syncR
          have HSy := Lib.hid (fun (W : World) (h8 : Hid (Run w b kk mb wa lg P2 B2 ⟨1, s.length, mk⟩ (n + 2097152 + 4194305) (.slice ua rs.length uc) rs W)) => (show Calls Tryz.prog 13 #[.pointer (some ⟨lg, 0, none⟩)] W fun e w' => e = .returned (.int .i64 0) ∧ Hid (Run w b kk mb wa lg P2.syncR.2 B2 ⟨1, s.length, mk⟩ (n + 2097152 + 4194305) (.slice ua rs.length uc) rs w') from by
            refine (h8.out.sync (by omega)).mono ?_
            rw [y1]
            rintro e w' ⟨rfl, h9⟩
            exact ⟨rfl, Lib.hid h9⟩))
          have eo := y2.open (by decide) c2
          have HOp := Lib.hid (fun (w4 W : World) (h8 : Hid (Run w b kk mb wa lg P2.syncR.2 B2 ⟨1, s.length, mk⟩ (n + 2097152 + 4194305) (.slice ua rs.length uc) rs w4)) (hb : Hid (Below w4.heap.size w4 W)) => (show Calls Tryz.prog 15 #[.pointer (some ⟨b, 0, none⟩), .pointer (some ⟨kk, 0, none⟩)] W fun e w' => ∃ lg2 va vc, e = .returned (.tuple #[.pointer (some ⟨lg2, 0, none⟩), .slice va rs.length vc, .int .i64 0]) ∧ (w'.cell? ⟨wa, 0, none⟩ = some (.pointer (some ⟨b, 0, none⟩)) ∧ w'.cell? ⟨wa, 1, none⟩ = some (.pointer (some ⟨kk, 0, none⟩))) ∧ w'.cell? ⟨wa, 3, none⟩ = some (.slice ua rs.length uc) ∧ Hid (StrsAt w' va rs ∧ StrsAt w' ua rs ∧ Below w.heap.size w w') from by
            refine ((h8.out.below hb.out).open (by omega) (by omega) eo).mono ?_
            rintro e w' ⟨lg2, v, rfl, _, hv, h9⟩
            obtain ⟨va, vc, rfl, hs1⟩ := readsStrs_own (ss := rs) hv
            obtain ⟨va2, vc2, e9, hs2⟩ := readsStrs_own h9.row
            injection e9 with e9 _ _
            subst e9
            exact ⟨lg2, va, vc, rfl, ⟨h9.wat.cell 0, h9.wat.cell 1⟩, h9.wat.cell 3, Lib.hid ⟨hs1, hs2, h9.own.bel⟩⟩))
          have HSa := Lib.hid (fun (va : Option Addr) (vc : Nat) (W : World) (h8 : Hid (StrsAt W va rs ∧ StrsAt W ua rs ∧ Below w.heap.size w W)) => (show Calls Tryz.prog 22 #[.slice va rs.length vc, .slice ua rs.length uc] W fun e w' => e = .returned (.bool true) ∧ Hid (Below w.heap.size w w') from by
            refine (same_any va vc rs ua uc rs W h8.out.1 h8.out.2.1 (by omega)).mono ?_
            rintro e w' ⟨rfl, h9⟩
            exact ⟨by unfold sameB; rw [decide_eq_true rfl], Lib.hid (below_step h8.out.2.2 h9)⟩))
          have HAw := Lib.hid (fun (W : World) (hb : Below w.heap.size w W) => (wawake_any W).mono (fun e w' (h : e = .returned (.bool true) ∧ Below W.heap.size W w') => (show e = .returned (.bool true) ∧ Below w.heap.size w w' from ⟨h.1, below_step hb h.2⟩)))
          have hrt : (r = 4 ∧ 1044992 < t.size) ∨ r = 7 := hr.imp (fun h => ⟨h.1, by omega⟩) id
          clear e1 e2 c1 o2 c2 l1 l2 hr y1 y2 y3 y4 y5 eo h2 h3 h4 h5 h6 h7 hrl h1 hts2
          have d0 : wr.cell? ⟨wa, 0, none⟩ = some (.pointer (some ⟨b, 0, none⟩)) := HR1.out.wat.cell 0
          have d2 : wr.cell? ⟨wa, 2, none⟩ = some (.pointer (some ⟨lg, 0, none⟩)) := HR1.out.wat.cell 2
          go_wp2_with fail
          refine HR1.out.size.mono ?_
          rintro e w2 ⟨rfl, rfl⟩
          go_wp2_with fail
          refine HR1.out.writes.mono ?_
          rintro e w2 ⟨rfl, rfl⟩
          have d2a : ∀ o, (wr.alloc o).cell? ⟨wa, 2, none⟩ = some (.pointer (some ⟨lg, 0, none⟩)) := fun o => (Blk.alloc HR1.out.wat o).cell 2
          have hmk := nt_make
          have hcv := nt_conv
          have hcv2 := nt_conv2
          have hns := ntS_size
          have hcat : ¬ 9223372036854775807 < t.size + ntS.size := by omega
          have hcat2 : ¬ 9223372036854775807 < t.size + 3840 := by omega
          go_upto_region 13 with (fail)
          go_cut [11] (fun v wx => v = .int .i64 r ∧ Hid (Run w b kk mb wa lg P B1 ⟨1, s.length, mk⟩ (n + 2097152) (.slice ua rs.length uc) rs wx))
          case first =>
            go_region_law (first
              | (go_simp; go_at_call 11; refine (HAp.out _ ((Below.refl _ wr).alloc (Nat.le_refl _) _).drew).mono ?_; rintro e w3 ⟨rfl, h3r⟩))
            all_goals go_wp2_with fail
            all_goals go_meet
            all_goals exact ⟨rfl, h3r⟩
          case rest =>
            obtain ⟨rfl, h3⟩ := hcut
            clear HAp HR1 d0 d2 d2a
            rcases hrt with ⟨rfl, hbig⟩ | rfl
            · have hbi : (1044992 : Int) < (t.size : Int) := by omega
              have HAw2 := Lib.hid (HAw.out _ h3.out.own.bel)
              clear HTn HSy HOp HSa HAw h3 hcv hcv2 hmk
              go_wp2_with fail
              refine HAw2.out.mono ?_
              rintro e w4 ⟨rfl, hb⟩
              go_wp2_with fail
              go_ret
              exact ⟨rfl, hb⟩
            · have d0 : wc.cell? ⟨wa, 0, none⟩ = some (.pointer (some ⟨b, 0, none⟩)) := h3.out.wat.cell 0
              have d2 : wc.cell? ⟨wa, 2, none⟩ = some (.pointer (some ⟨lg, 0, none⟩)) := h3.out.wat.cell 2
              go_wp2_with fail
              refine h3.out.size.mono ?_
              rintro e w2 ⟨rfl, rfl⟩
              go_wp2_with fail
              refine h3.out.writes.mono ?_
              rintro e w2 ⟨rfl, rfl⟩
              have d2a : ∀ o, (wc.alloc o).cell? ⟨wa, 2, none⟩ = some (.pointer (some ⟨lg, 0, none⟩)) := fun o => (Blk.alloc h3.out.wat o).cell 2
              have d2b : ∀ o o2, ((wc.alloc o).alloc o2).cell? ⟨wa, 2, none⟩ = some (.pointer (some ⟨lg, 0, none⟩)) := fun o o2 => (Blk.alloc (Blk.alloc h3.out.wat o) o2).cell 2
              go_upto_region 16 with (fail)
              go_cut [12] (fun v wx => v = .int .i64 7 ∧ Hid (Run w b kk mb wa lg P2 B2 ⟨1, s.length, mk⟩ (n + 2097152 + 4194305) (.slice ua rs.length uc) rs wx))
              case first =>
                go_region_law (first
                  | (go_simp; go_at_call 19; refine (HTn.out wc _ _ h3 (below_two wc _ _) (blk_two wc _ _ _)).mono ?_; rintro e w4 ⟨rfl, h4r⟩))
                all_goals go_wp2_with fail
                all_goals go_meet
                all_goals exact ⟨rfl, h4r⟩
              case rest =>
                obtain ⟨rfl, h4⟩ := hcut
                clear HTn h3 d0 d2 d2a d2b hmk hcv hcv2
                have d0 : wc.cell? ⟨wa, 0, none⟩ = some (.pointer (some ⟨b, 0, none⟩)) := h4.out.wat.cell 0
                have d2 : wc.cell? ⟨wa, 2, none⟩ = some (.pointer (some ⟨lg, 0, none⟩)) := h4.out.wat.cell 2
                go_wp2_with fail
                refine h4.out.segment.mono ?_
                rintro e w2 ⟨rfl, rfl⟩
                go_wp2_with fail
                refine (HSy.out _ h4).mono ?_
                rintro e w5 ⟨rfl, h5⟩
                clear HSy h4 d0 d2
                have d0 : w5.cell? ⟨wa, 0, none⟩ = some (.pointer (some ⟨b, 0, none⟩)) := h5.out.wat.cell 0
                have d1 : w5.cell? ⟨wa, 1, none⟩ = some (.pointer (some ⟨kk, 0, none⟩)) := h5.out.wat.cell 1
                have hA5 : Hid (Below w5.heap.size w5 w5.drew) := Lib.hid (Below.refl _ w5).drew
                have HOp5 := Lib.hid (fun W hb => HOp.out w5 W h5 hb)
                have HK5 := Lib.hid (fun W (hb : Hid (Below w5.heap.size w5 W)) => (show W.cell? ⟨wa, 0, none⟩ = some (.pointer (some ⟨b, 0, none⟩)) ∧ W.cell? ⟨wa, 1, none⟩ = some (.pointer (some ⟨kk, 0, none⟩)) from ⟨(Blk.below h5.out.wat hb.out).cell 0, (Blk.below h5.out.wat hb.out).cell 1⟩))
                go_upto_region 20 with (fail)
                go_region_held3 (fun w' => w'.cell? ⟨wa, 0, none⟩ = some (.pointer (some ⟨b, 0, none⟩)) ∧ w'.cell? ⟨wa, 1, none⟩ = some (.pointer (some ⟨kk, 0, none⟩)))
                  (first | exact hc6 | go_keep)
                  ((go_at_call 15; refine (HOp5.out _ (by assumption)).mono ?_; rintro e w6 ⟨lg2, va, vc, rfl, hc6, hc63, h6⟩))
                clear HOp HOp5 HK5 hA5 d0 d1 hc6
                go_wp2_with fail
                refine (HSa.out _ _ _ h6).mono ?_
                rintro e w7 ⟨rfl, h7⟩
                go_wp2_with fail
                refine (HAw.out _ h7.out).mono ?_
                rintro e w8 ⟨rfl, h8⟩
                go_wp2_with fail
                go_ret
                exact ⟨rfl, h8⟩
end Go.Proofs.YtkllnihhhgaojaaGreatDoor
