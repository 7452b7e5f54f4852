/- The walk of WalTurns. No condition. -/
import Derived.Test.YtkllnihhhgaojaaGreatDoorWalRows
namespace Go.Proofs.YtkllnihhhgaojaaGreatDoor
open Go Go.RowKit
set_option linter.unusedVariables false

theorem recsLen_le : ∀ (l : List ByteArray), (∀ t ∈ l, t.size ≤ 300) → recsLen l ≤ l.length * 337
  | [], _ => Nat.le_refl _
  | t :: r, h => by
    have h1 := h t (List.mem_cons.2 (Or.inl rfl))
    have h2 := recsLen_le r (fun u hu => h u (List.mem_cons.2 (Or.inr hu)))
    have e : recsLen (t :: r) = (t.size + 37) + recsLen r := by unfold recsLen; rw [List.map_cons, List.sum_cons]
    rw [e, List.length_cons]
    omega
theorem wfew_len (l : List ByteArray) : (wfew l).length ≤ 8 := by unfold wfew; rw [List.length_take]; omega
theorem wfew_size (l : List ByteArray) : ∀ t ∈ wfew l, t.size ≤ 300 := by
  intro t ht
  unfold wfew at ht
  obtain ⟨u, _, rfl⟩ := List.mem_map.1 (List.mem_of_mem_take ht)
  exact wcut_size u
theorem turn_one {P : PS} {Bk recs : List ByteArray} {s0 : List UInt8} {mk : ByteArray} (h : One P 1 s0 300) (hc : Chn Bk 1 recs s0 mk) (hs : s0.length ≤ 2733) (snap : List ByteArray) (hl : snap.length ≤ 8) (ht : ∀ t ∈ snap, t.size ≤ 300) :
    ∃ P' B' s m, wturn P Bk ⟨1, s0.length, mk⟩ snap = ⟨0, P', B', ⟨2, s.length, m⟩⟩ ∧ One P' 2 s 300 ∧ Chn B' 2 (logRecs snap []) s m ∧ s.length ≤ 2733 ∧ B'.length ≤ Bk.length + 9 ∧ LG.Ok ⟨2, s.length, m⟩ := by
  obtain ⟨hca, hv⟩ := h.calm
  have hr := recsLen_le snap ht
  have hw12 : wname 1 ≠ wname 2 := by decide
  obtain ⟨B', hg, hbl, ⟨r, P', s, m, A, C, e, hac, ha, hch, hlen, hw, hls⟩ | ⟨r, _⟩⟩ := hca.begin (n := 2) (by
      rw [hv]
      intro x hx
      rw [List.mem_singleton.1 hx]
      exact hw12) Bk snap (fun t h1 => by have := ht t h1; omega) (by omega)
  · have hrem : ∃ P2, P2 = (P'.remove (wname 1)).2 ∧ Calm P2 300 ∧ vw P2 = [(wname 2, s)] := by
      have hview := ha.view
      rw [hv] at hac
      cases A with
      | nil =>
        rw [List.nil_append] at hac hview
        rw [hac] at hview
        obtain ⟨k1, k2, _, _⟩ := ha.calm.remove (A := [(wname 2, s)]) (C := []) (x := (wname 1, s0)) hview (fun y hy => by
          rw [List.mem_singleton.1 hy]
          exact fun e => hw12 e.symm)
        exact ⟨_, rfl, k1, k2⟩
      | cons x A' =>
        injection hac with h1 h2
        obtain ⟨rfl, rfl⟩ := List.append_eq_nil_iff.1 h2
        rw [h1] at hview
        obtain ⟨k1, k2, _, _⟩ := ha.calm.remove (A := []) (C := [(wname 2, s)]) (x := (wname 1, s0)) hview (fun y hy => by cases hy)
        exact ⟨_, rfl, k1, k2⟩
    obtain ⟨P2, hP2, hcm, hv2⟩ := hrem
    have hLok := wbegin_L (P := P) (B := Bk) (n := 2) (by omega) snap
    rw [e] at hLok
    refine ⟨P2, B', s, m, ?_, hcm.one hv2, hch, by omega, by omega, hLok⟩
    unfold wturn
    rw [if_neg (show ¬ ((1 : Nat) = 99999999) by decide)]
    have e2 : wbegin P Bk ((⟨1, s0.length, mk⟩ : LG).n + 1) snap = ⟨0, P', B', ⟨2, s.length, m⟩⟩ := e
    rw [e2, if_neg (show ¬ ((0 : Int) ≠ 0) by decide), hP2]
  · rw [hv] at r
    have e1 : vsum [(wname 1, s0)] = secs s0.length := by unfold vsum; simp
    rw [e1] at r
    have k1 := secs_mono (show s0.length ≤ 2733 by omega)
    have k2 := secs_mono (show recsLen snap + 37 ≤ 2733 by omega)
    have k3 : secs 2733 = 43 := rfl
    omega
/-- like Run1.append, and rows of texts stay -/
theorem Run1.append2 {w0 w : World} {b k mb wa lg seg z j : Nat} {most : Int} {snap more al : List ByteArray} {av : Value} (h : Run1 w0 b k mb wa lg most seg snap more z j av al w) {t : ByteArray} (ht : t.size ≤ 1048832) (hz : z + (t.size + 37) ≤ 2097152) (hj : j ≤ 100) :
    Calls Tryz.prog 11 #[.pointer (some ⟨lg, 0, none⟩), .string t] w fun e w' => ∃ r, e = .returned (.int .i64 r) ∧ ((r = 0 ∧ Run1 w0 b k mb wa lg most seg snap (more ++ [t]) (z + (t.size + 37)) (j + 1) av al w') ∨ (r = 7 ∧ most < ((secs (z + (t.size + 37)) : Nat) : Int) ∧ Run1 w0 b k mb wa lg most seg snap more (z + (t.size + 37)) (j + 1) av al w')) ∧ RK w w' := by
  obtain ⟨P, Bk, s, mk, n, h1, h2, h3, h4, h5, h6, h7⟩ := h
  obtain ⟨B', hg, hl, hc⟩ := h2.append h3 ht (by omega)
  have hok := wput_L (P := P) (B := Bk) h4 82 [t]
  refine (h1.append2 h4 (by omega) (by omega) t).mono ?_
  rintro e w' ⟨rfl, h8, h9⟩
  rcases hc with ⟨_, P', s', m', e1, e2, e3, e4⟩ | ⟨hm, e1, e2⟩
  · have hok' : LG.Ok (wappend P Bk ⟨seg, s.length, mk⟩ t).L := hok
    rw [e1] at h8 hok' ⊢
    rw [logRecs_snoc] at e3
    exact ⟨0, rfl, Or.inl ⟨rfl, P', B', s', m', _, h8, e2, e3, hok', by omega, by omega, by omega⟩, h9⟩
  · rw [e1] at h8 ⊢
    have hms := secs_mono (show s.length + (t.size + 37) ≤ z + (t.size + 37) by omega)
    exact ⟨7, rfl, Or.inr ⟨rfl, by omega, P, B', s, mk, _, h8, h2, e2, h4, by omega, by omega, by omega⟩, h9⟩
theorem Run1.turn2 {w0 w : World} {b k mb wa lg j : Nat} {more al : List ByteArray} {av : Value} (h : Run1 w0 b k mb wa lg 300 1 [] more 2733 j av al w) (hj : j ≤ 20) {ad : Option Addr} {cap base : Nat} {snap : List ByteArray} (hr : w.ownsRow base 9 1 (.slice ad snap.length cap) snap.length (strVals snap)) (hl : snap.length ≤ 8) (ht : ∀ t ∈ snap, t.size ≤ 300) :
    Calls Tryz.prog 19 #[.pointer (some ⟨lg, 0, none⟩), .slice ad snap.length cap] w fun e w' => e = .returned (.int .i64 0) ∧ Run1 w0 b k mb wa lg 300 2 snap [] 2733 (j + 9) av al w' ∧ RK w w' := by
  obtain ⟨P, Bk, s, mk, n, h1, h2, h3, h4, h5, h6, h7⟩ := h
  obtain ⟨P', B', s', m', e1, o1, c1, l1, b1, k1⟩ := turn_one h2 h3 h5 snap hl ht
  refine (h1.turn2 h4 (by omega) hr (by omega) (by omega)).mono ?_
  rw [e1]
  rintro e w' ⟨rfl, h8, h9⟩
  exact ⟨rfl, ⟨P', B', s', m', _, h8, o1, c1, k1, l1, by omega, by omega⟩, h9⟩
theorem Run1.mono {w0 w : World} {b k mb wa lg seg z j z' j' : Nat} {most : Int} {snap more al : List ByteArray} {av : Value} (h : Run1 w0 b k mb wa lg most seg snap more z j av al w) (hz : z ≤ z') (hj : j ≤ j') : Run1 w0 b k mb wa lg most seg snap more z' j' av al w := by
  obtain ⟨P, Bk, s, mk, n, h1, h2, h3, h4, h5, h6, h7⟩ := h
  exact ⟨P, Bk, s, mk, n, h1, h2, h3, h4, by omega, by omega, Nat.le_trans h7 (Nat.add_le_add_left (Nat.mul_le_mul_right _ hj) _)⟩
/-- a row of texts in a slot -/
def RowIs (x : Option Addr) (y : Nat) (l : List ByteArray) (w : World) : Prop := ∃ base, w.ownsRow base 9 1 (.slice x l.length y) l.length (strVals l)
theorem RowIs.keep {x : Option Addr} {y : Nat} {l : List ByteArray} {w w' : World} (h : RowIs x y l w) (hk : RK w w') : RowIs x y l w' := by
  obtain ⟨base, hr⟩ := h
  exact ⟨base, hk _ _ _ _ hr⟩
theorem RowIs.below {x : Option Addr} {y : Nat} {l : List ByteArray} {w w' : World} (h : RowIs x y l w) (hb : Below w.heap.size w w') : RowIs x y l w' := h.keep (RK.below hb)
theorem RowIs.strs {x : Option Addr} {y : Nat} {l : List ByteArray} {w : World} (h : RowIs x y l w) : StrsAt w x l := by
  obtain ⟨base, hr⟩ := h
  obtain ⟨ad, cap, e, hs⟩ := readsStrs_own (ss := l) hr
  injection e with e _ _
  subst e
  exact hs
theorem few_row (ad : Option Addr) (cap : Nat) (l : List ByteArray) (w : World) (hl : StrsAt w ad l) (hll : l.length ≤ maxLen) :
    Calls Tryz.prog 18 #[.slice ad l.length cap] w fun e w' => ∃ x y, e = .returned (.slice x (wfew l).length y) ∧ Hid (RowIs x y (wfew l) w' ∧ Below w.heap.size w w') := by
  refine (few_any ad cap l w hl hll).mono ?_
  rintro e w' ⟨v, rfl, hr, hb⟩
  obtain ⟨x, y, rfl⟩ := row_shape hr
  exact ⟨x, y, rfl, Lib.hid ⟨⟨_, hr⟩, hb⟩⟩
set_option maxRecDepth 100000 in
set_option maxHeartbeats 40000000 in
theorem walTurns_walk (a1 : Option Addr) (len1 cap1 : Nat) (zs1 : List ByteArray) (a2 : Option Addr) (len2 cap2 : Nat) (zs2 : List ByteArray) (a3 : Option Addr) (len3 cap3 : Nat) (zs3 : List ByteArray) (w : World) (hl1 : IsStrs w a1 len1 cap1 zs1) (hl2 : IsStrs w a2 len2 cap2 zs2) (hl3 : IsStrs w a3 len3 cap3 zs3) :
    Calls Tryz.prog 4 #[.slice a1 len1 cap1, .slice a2 len2 cap2, .slice a3 len3 cap3] w fun e w' => e = .returned (.bool true) ∧ Below w.heap.size w w' := by
  obtain ⟨hs1, hn1, -, hm1, -⟩ := isStrs_at hl1
  generalize zs1.take len1 = l1 at hs1 hn1
  subst hn1
  obtain ⟨hs2, hn2, -, hm2, -⟩ := isStrs_at hl2
  generalize zs2.take len2 = l2 at hs2 hn2
  subst hn2
  obtain ⟨hs3, hn3, -, hm3, -⟩ := isStrs_at hl3
  generalize zs3.take len3 = l3 at hs3 hn3
  subst hn3
  clear hl1 hl2 hl3
  have HL1 := Lib.hid (fun W (hb : Below w.heap.size w W) => few_row a1 cap1 l1 W (strsAt_below hs1 hb) hm1)
  have HL2 := Lib.hid (fun W (hb : Below w.heap.size w W) => few_row a2 cap2 l2 W (strsAt_below hs2 hb) hm2)
  have HL3 := Lib.hid (fun W (hb : Below w.heap.size w W) => few_row a3 cap3 l3 W (strsAt_below hs3 hb) hm3)
  have hA8 := wfew_len l1
  have hS8 := wfew_len l2
  have hC8 := wfew_len l3
  have HAz := Lib.hid (wfew_size l1)
  have HSz := Lib.hid (wfew_size l2)
  have HCz := Lib.hid (wfew_size l3)
  clear hs1 hs2 hs3 hm1 hm2 hm3
  generalize wfew l1 = A at *
  generalize wfew l2 = S at *
  generalize wfew l3 = C at *
  have HLd := Lib.hid (laid_run 300 w (by omega))
  go_enter Tryz.func4, Tryz.ntmps4
  go_wp2_with fail
  refine HLd.out.mono ?_
  rintro e w1 ⟨wa, b, kk, mb, lg, rfl, h1⟩
  have H1 := Lib.hid h1
  clear h1 HLd
  go_wp2_with fail
  refine (HL1.out _ H1.out.bel).mono ?_
  rintro e w2 ⟨x1, y1, rfl, q1⟩
  have H2 := Lib.hid (H1.out.below q1.out.2)
  clear HL1 H1
  go_wp2_with fail
  refine (HL2.out _ H2.out.bel).mono ?_
  rintro e w3 ⟨x2, y2, rfl, q2⟩
  have H3 := Lib.hid (H2.out.below q2.out.2)
  have R13 := Lib.hid (q1.out.1.below q2.out.2)
  clear HL2 H2 q1
  go_wp2_with fail
  refine (HL3.out _ H3.out.bel).mono ?_
  rintro e w4 ⟨x3, y3, rfl, q3⟩
  have H4 := Lib.hid (H3.out.below q3.out.2)
  have R4 := Lib.hid (And.intro (R13.out.below q3.out.2) (And.intro (q2.out.1.below q3.out.2) q3.out.1))
  clear HL3 H3 q2 q3 R13
  go_wp2_with fail
  go_loopw [8] (fun i wr => ∃ k : Nat, k ≤ A.length ∧ i = .int .i64 k ∧ Hid (∃ rs, Run1 w b kk mb wa lg 300 1 [] rs (37 + k * 337) (1 + k) (.slice none 0 0) [] wr) ∧ Hid (RowIs x1 y1 A wr ∧ RowIs x2 y2 S wr ∧ RowIs x3 y3 C wr)) (fun i _ => A.length - (intOf i).toNat)
  case atStart => exact ⟨0, by omega, rfl, Lib.hid ⟨[], H4.out⟩, R4⟩
  case round =>
    obtain ⟨k, hk, rfl, HR, HQ⟩ := hrel
    by_cases hlt : k < A.length
    · have hi : (k : Int) < (A.length : Int) := by omega
      obtain ⟨rs, hR⟩ := HR.out
      have HR1 := Lib.hid hR
      have c2 : wr.cell? ⟨wa, 2, none⟩ = some (.pointer (some ⟨lg, 0, none⟩)) := hR.cells.cell 2
      rcases HQ.out.1.strs with h0 | ⟨g, off, rfl, hgl, hc⟩
      · rw [h0] at hlt; simp at hlt
      · have cs := hc k hlt
        have hcz := HAz.out A[k] (List.getElem_mem hlt)
        have HSt := Lib.hid (fun (W : World) (hb : RowIs (some ⟨g, off, none⟩) y1 A W) => (show W.cell? ⟨g, off + k, none⟩ = some (.string A[k]) from by
          rcases hb.strs with h0 | ⟨g', off', e, hgl', hc'⟩
          · rw [h0] at hlt; simp at hlt
          · injection e with e
            injection e with e1 e2 _
            subst e1
            subst e2
            exact hc' k hlt))
        generalize A[k] = s at cs hcz HSt
        have HAp := Lib.hid (fun (W : World) (hb : Hid (Below wr.heap.size wr W)) => (show Calls Tryz.prog 11 #[.pointer (some ⟨lg, 0, none⟩), .string s] W fun e w' => ∃ r, e = .returned (.int .i64 r) ∧ (w'.cell? ⟨wa, 2, none⟩ = some (.pointer (some ⟨lg, 0, none⟩)) ∧ w'.cell? ⟨g, off + k, none⟩ = some (.string s)) ∧ Hid (∃ rs', Run1 w b kk mb wa lg 300 1 [] rs' (37 + (k + 1) * 337) (1 + (k + 1)) (.slice none 0 0) [] w') ∧ Hid (RowIs (some ⟨g, off, none⟩) y1 A w' ∧ RowIs x2 y2 S w' ∧ RowIs x3 y3 C w') from by
          refine ((HR1.out.below hb.out).append2 (t := s) (by omega) (by omega) (by omega)).mono ?_
          rintro e w' ⟨r, rfl, hc, hk⟩
          have hk2 := (RK.below hb.out).trans hk
          have hq : RowIs (some ⟨g, off, none⟩) y1 A w' ∧ RowIs x2 y2 S w' ∧ RowIs x3 y3 C w' := ⟨HQ.out.1.keep hk2, HQ.out.2.1.keep hk2, HQ.out.2.2.keep hk2⟩
          rcases hc with ⟨_, h⟩ | ⟨_, _, h⟩
          · exact ⟨r, rfl, ⟨h.cells.cell 2, HSt.out _ hq.1⟩, Lib.hid ⟨_, h.mono (by omega) (by omega)⟩, Lib.hid hq⟩
          · exact ⟨r, rfl, ⟨h.cells.cell 2, HSt.out _ hq.1⟩, Lib.hid ⟨_, h.mono (by omega) (by omega)⟩, Lib.hid hq⟩))
        have hA0 : Hid (Below wr.heap.size wr wr.drew) := Lib.hid (Below.refl _ wr).drew
        clear hc hR hcz
        go_upto_region 8 with (fail)
        go_region_held3 (fun w' => w'.cell? ⟨wa, 2, none⟩ = some (.pointer (some ⟨lg, 0, none⟩)) ∧ w'.cell? ⟨g, off + k, none⟩ = some (.string s))
          (first | exact hc2 | go_keep)
          ((go_at_call 11; refine (HAp.out _ (by assumption)).mono ?_; rintro e w3 ⟨r, rfl, hc2, h3, hq3⟩))
        clear HAp hA0 cs c2 hc2 HR1 HR HQ HSt
        go_wp2_with fail
        go_roundw
        case rel => exact ⟨k + 1, by omega, by go_num, h3, hq3⟩
        case measure => simp [intOf]; omega
    · have hi : ¬ ((k : Int) < (A.length : Int)) := by omega
      have hkA : k = A.length := by omega
      obtain ⟨rs, hR⟩ := HR.out
      have HR1 := Lib.hid (hR.mono (show 37 + k * 337 ≤ 2733 by omega) (show 1 + k ≤ 9 by omega))
      have HTn := Lib.hid (fun (_ : Unit) => (show Calls Tryz.prog 19 #[.pointer (some ⟨lg, 0, none⟩), .slice x2 S.length y2] wr fun e w' => e = .returned (.int .i64 0) ∧ Hid (Run1 w b kk mb wa lg 300 2 S [] 2733 18 (.slice none 0 0) [] w') ∧ Hid (RowIs x2 y2 S w' ∧ RowIs x3 y3 C w') from by
        obtain ⟨base, hr⟩ := HQ.out.2.1
        refine (HR1.out.turn2 (by omega) hr hS8 HSz.out).mono ?_
        rintro e w' ⟨rfl, h, hk⟩
        exact ⟨rfl, Lib.hid h, Lib.hid ⟨HQ.out.2.1.keep hk, HQ.out.2.2.keep hk⟩⟩))
      have c2 : wr.cell? ⟨wa, 2, none⟩ = some (.pointer (some ⟨lg, 0, none⟩)) := hR.cells.cell 2
      clear hR hkA HR
      go_wp2_with fail
      refine (HTn.out ()).mono ?_
      rintro e w5 ⟨rfl, HR5, HQ5⟩
      clear c2 HTn HR1 HQ
      go_wp2_with fail
      go_loopw [9] (fun i wr => ∃ k : Nat, k ≤ C.length ∧ i = .int .i64 k ∧ Hid (Run1 w b kk mb wa lg 300 2 S (C.take k) (2733 + k * 337) (18 + k) (.slice none 0 0) [] wr) ∧ Hid (RowIs x2 y2 S wr ∧ RowIs x3 y3 C wr)) (fun i _ => C.length - (intOf i).toNat)
      case atStart => exact ⟨0, by omega, rfl, HR5, HQ5⟩
      case round =>
        obtain ⟨k2, hk2, rfl, HR, HQ⟩ := hrel
        by_cases hlt : k2 < C.length
        · have hi2 : (k2 : Int) < (C.length : Int) := by omega
          have c2 : wr.cell? ⟨wa, 2, none⟩ = some (.pointer (some ⟨lg, 0, none⟩)) := HR.out.cells.cell 2
          rcases HQ.out.2.strs with h0 | ⟨g, off, rfl, hgl, hc⟩
          · rw [h0] at hlt; simp at hlt
          · have cs := hc k2 hlt
            have hcz := HCz.out C[k2] (List.getElem_mem hlt)
            have HSt := Lib.hid (fun (W : World) (hb : RowIs (some ⟨g, off, none⟩) y3 C W) => (show W.cell? ⟨g, off + k2, none⟩ = some (.string C[k2]) from by
              rcases hb.strs with h0 | ⟨g', off', e, hgl', hc'⟩
              · rw [h0] at hlt; simp at hlt
              · injection e with e
                injection e with e1 e2 _
                subst e1
                subst e2
                exact hc' k2 hlt))
            have HTk := Lib.hid (List.take_succ_eq_append_getElem hlt)
            generalize C[k2] = s at cs hcz HSt HTk
            have HAp := Lib.hid (fun (W : World) (hb : Hid (Below wr.heap.size wr W)) => (show Calls Tryz.prog 11 #[.pointer (some ⟨lg, 0, none⟩), .string s] W fun e w' => e = .returned (.int .i64 0) ∧ (w'.cell? ⟨wa, 2, none⟩ = some (.pointer (some ⟨lg, 0, none⟩)) ∧ w'.cell? ⟨g, off + k2, none⟩ = some (.string s)) ∧ Hid (Run1 w b kk mb wa lg 300 2 S (C.take (k2 + 1)) (2733 + (k2 + 1) * 337) (18 + (k2 + 1)) (.slice none 0 0) [] w') ∧ Hid (RowIs x2 y2 S w' ∧ RowIs (some ⟨g, off, none⟩) y3 C w') from by
              refine ((HR.out.below hb.out).append2 (t := s) (by omega) (by omega) (by omega)).mono ?_
              rintro e w' ⟨r, rfl, hc, hk⟩
              have hk2' := (RK.below hb.out).trans hk
              have hq : RowIs x2 y2 S w' ∧ RowIs (some ⟨g, off, none⟩) y3 C w' := ⟨HQ.out.1.keep hk2', HQ.out.2.keep hk2'⟩
              rcases hc with ⟨rfl, h⟩ | ⟨_, hbad, _⟩
              · rw [← HTk.out] at h
                exact ⟨rfl, ⟨h.cells.cell 2, HSt.out _ hq.2⟩, Lib.hid (h.mono (by omega) (by omega)), Lib.hid hq⟩
              · exfalso
                have hms := secs_mono (show 2733 + k2 * 337 + (s.size + 37) ≤ 5500 by omega)
                have h86 : secs 5500 = 86 := rfl
                omega))
            have hA0 : Hid (Below wr.heap.size wr wr.drew) := Lib.hid (Below.refl _ wr).drew
            clear hc hcz
            go_upto_region 14 with (fail)
            go_region_held3 (fun w' => w'.cell? ⟨wa, 2, none⟩ = some (.pointer (some ⟨lg, 0, none⟩)) ∧ w'.cell? ⟨g, off + k2, none⟩ = some (.string s))
              (first | exact hc2 | go_keep)
              ((go_at_call 11; refine (HAp.out _ (by assumption)).mono ?_; rintro e w3 ⟨rfl, hc2, h3, hq3⟩))
            clear HAp hA0 cs c2 hc2 HR HQ HSt HTk
            go_wp2_with fail
            go_roundw
            case rel => exact ⟨k2 + 1, by omega, by go_num, h3, hq3⟩
            case measure => simp [intOf]; omega
        · have hi2 : ¬ ((k2 : Int) < (C.length : Int)) := by omega
          have hkC : C.take k2 = C := List.take_of_length_le (by omega)
          have hR := HR.out
          rw [hkC] at hR
          obtain ⟨P, Bk, s, mk, n, h1, h2, h3, h4, h5, h6, h7⟩ := hR
          obtain ⟨q1, q2, q3, q4, q5⟩ := h2.syncR
          have oc := q2.crash q3 q4 []
          have eo := oc.open (by decide) h3
          obtain ⟨N, hN⟩ : ∃ N, S.length + C.length = N := ⟨_, rfl⟩
          have hN2 : (S ++ C).length = N := by rw [List.length_append, hN]
          have hnb : n ≤ 200000000 := by omega
          have HSy := Lib.hid (show Calls Tryz.prog 13 #[.pointer (some ⟨lg, 0, none⟩)] wr fun e w' => e = .returned (.int .i64 0) ∧ Hid (Run w b kk mb wa lg P.syncR.2 Bk ⟨2, s.length, mk⟩ n (.slice none 0 0) [] w' ∧ RowIs x2 y2 S w' ∧ RowIs x3 y3 C w') from by
            refine (h1.sync2 (by omega)).mono ?_
            rw [q1]
            rintro e w' ⟨rfl, h9, hk⟩
            exact ⟨rfl, Lib.hid ⟨h9, HQ.out.1.keep hk, HQ.out.2.keep hk⟩⟩)
          generalize hP1 : P.syncR.2 = P1 at q2 q3 q4 q5 oc eo HSy
          generalize hP2 : P1.crash [] = P2 at oc eo
          have HCr := Lib.hid (fun (w5 : World) (h : Hid (Run w b kk mb wa lg P1 Bk ⟨2, s.length, mk⟩ n (.slice none 0 0) [] w5 ∧ RowIs x2 y2 S w5 ∧ RowIs x3 y3 C w5)) => (show Calls Tryz.prog 20 #[.pointer (some ⟨b, 0, none⟩), .slice none 0 0] w5 fun e w' => e = .returned (.tuple #[]) ∧ Hid (Run w b kk mb wa lg P2 Bk ⟨2, s.length, mk⟩ n (.slice none 0 0) [] w' ∧ RowIs x2 y2 S w' ∧ RowIs x3 y3 C w') from by
            refine (h.out.1.crash2 (by omega)).mono ?_
            rw [hP2]
            rintro e w' ⟨rfl, h9, hk⟩
            exact ⟨rfl, Lib.hid ⟨h9, h.out.2.1.keep hk, h.out.2.2.keep hk⟩⟩))
          have HOp := Lib.hid (fun (w6 W : World) (h : Hid (Run w b kk mb wa lg P2 Bk ⟨2, s.length, mk⟩ n (.slice none 0 0) [] w6 ∧ RowIs x2 y2 S w6 ∧ RowIs x3 y3 C w6)) (hb : Hid (Below w6.heap.size w6 W)) => (show Calls Tryz.prog 15 #[.pointer (some ⟨b, 0, none⟩), .pointer (some ⟨kk, 0, none⟩)] W fun e w' => ∃ lg2 ra rc, e = .returned (.tuple #[.pointer (some ⟨lg2, 0, none⟩), .slice ra N rc, .int .i64 0]) ∧ (w'.cell? ⟨wa, 0, none⟩ = some (.pointer (some ⟨b, 0, none⟩)) ∧ w'.cell? ⟨wa, 1, none⟩ = some (.pointer (some ⟨kk, 0, none⟩))) ∧ Hid (StrsAt w' ra (S ++ C) ∧ LogAt w' lg2 b kk ⟨2, s.length, mk⟩ ∧ Run w b kk mb wa lg P2 Bk ⟨2, s.length, mk⟩ (n + 2097152) (.slice none 0 0) [] w' ∧ RowIs x2 y2 S w' ∧ RowIs x3 y3 C w') from by
            refine ((h.out.1.below hb.out).open2 (by omega) (by omega) eo).mono ?_
            rintro e w' ⟨lg2, v, rfl, hlg, hv, h9, hk⟩
            have hk2' := (RK.below hb.out).trans hk
            obtain ⟨ra, rc, rfl, hsr⟩ := readsStrs_own (ss := S ++ C) hv
            rw [hN2]
            exact ⟨lg2, ra, rc, rfl, ⟨h9.wat.cell 0, h9.wat.cell 1⟩, Lib.hid ⟨hsr, hlg, h9, h.out.2.1.keep hk2', h.out.2.2.keep hk2'⟩⟩))
          have HLs := Lib.hid (fun (w7 : World) (h : Run w b kk mb wa lg P2 Bk ⟨2, s.length, mk⟩ (n + 2097152) (.slice none 0 0) [] w7) => (show Calls Tryz.prog 21 #[.pointer (some ⟨b, 0, none⟩)] w7 fun e w' => ∃ g gc, e = .returned (.tuple #[.slice (some ⟨g, 0, none⟩) 1 gc, .int .i64 0]) ∧ w'.cell? ⟨g, 0, none⟩ = some (.string ⟨#[115, 101, 103, 45, 48, 48, 48, 48, 48, 48, 48, 50]⟩) ∧ Hid (g < w'.heap.size ∧ Below w7.heap.size w7 w') from by
            refine (h.list oc).mono ?_
            rintro e w' ⟨v, rfl, hv, hb⟩
            obtain ⟨ad, cap, rfl, _, _, _, hnil, hsome⟩ := row_open hv
            cases ad with
            | none => exact absurd (hnil rfl) (by decide)
            | some x =>
              obtain ⟨g, rfl, _, hgl, hc⟩ := hsome x rfl
              have hc0 := hc 0 (by decide)
              have ew : wname 2 = ⟨#[115, 101, 103, 45, 48, 48, 48, 48, 48, 48, 48, 50]⟩ := by kernel_rfl
              rw [ew] at hc0
              exact ⟨g, cap, rfl, hc0, Lib.hid ⟨hgl, hb⟩⟩))
          have c2 : wr.cell? ⟨wa, 2, none⟩ = some (.pointer (some ⟨lg, 0, none⟩)) := HR.out.cells.cell 2
          clear hkC h1 h2 h3 h4 h5 h6 h7 q1 q2 q3 q4 q5 oc eo hP1 hP2 HR HQ
          go_wp2_with fail
          refine HSy.out.mono ?_
          rintro e w5 ⟨rfl, h5⟩
          have d0 : w5.cell? ⟨wa, 0, none⟩ = some (.pointer (some ⟨b, 0, none⟩)) := h5.out.1.wat.cell 0
          clear c2 HSy
          go_wp2_with fail
          refine (HCr.out _ h5).mono ?_
          rintro e w6 ⟨rfl, h6⟩
          clear d0 HCr h5
          have d0 : w6.cell? ⟨wa, 0, none⟩ = some (.pointer (some ⟨b, 0, none⟩)) := h6.out.1.wat.cell 0
          have d1 : w6.cell? ⟨wa, 1, none⟩ = some (.pointer (some ⟨kk, 0, none⟩)) := h6.out.1.wat.cell 1
          have hA6 : Hid (Below w6.heap.size w6 w6.drew) := Lib.hid (Below.refl _ w6).drew
          have HOp6 := Lib.hid (fun W hb => HOp.out w6 W h6 hb)
          go_upto_region 18 with (fail)
          go_region_held3 (fun w' => w'.cell? ⟨wa, 0, none⟩ = some (.pointer (some ⟨b, 0, none⟩)) ∧ w'.cell? ⟨wa, 1, none⟩ = some (.pointer (some ⟨kk, 0, none⟩)))
            (first | exact hc7 | go_keep)
            ((go_at_call 15; refine (HOp6.out _ (by assumption)).mono ?_; rintro e w7 ⟨lg2, ra, rc, rfl, hc7, h7⟩))
          clear HOp HOp6 hA6 d0 d1 hc7 h6
          have d0 : w7.cell? ⟨wa, 0, none⟩ = some (.pointer (some ⟨b, 0, none⟩)) := h7.out.2.2.1.wat.cell 0
          go_wp2_with fail
          refine (HLs.out _ h7.out.2.2.1).mono ?_
          rintro e w8 ⟨g, gc, rfl, hg, h8⟩
          clear d0 HLs
          have HB8 := Lib.hid h8.out.2
          obtain ⟨hsr, hlg2, hrun, ⟨bS, hrS⟩, ⟨bC, hrC⟩⟩ := h7.out
          have HrS := Lib.hid (ownsRow_below hrS HB8.out)
          have HrC := Lib.hid (ownsRow_below hrC HB8.out)
          have HSr := Lib.hid (strsAt_below hsr HB8.out)
          have HL2 := Lib.hid (Blk.below hlg2 HB8.out)
          have HR8 := Lib.hid (hrun.below HB8.out)
          have hgl := h8.out.1
          clear h7 h8 hsr hlg2 hrun hrS hrC HB8
          have HSm := Lib.hid (fun (W : World) (va : Option Addr) (vc : Nat) (hb : Below w8.heap.size w8 W) (hr : W.ownsRow w8.heap.size 9 1 (.slice va N vc) N (strVals (S ++ C))) => (show Calls Tryz.prog 22 #[.slice ra N rc, .slice va N vc] W fun e w' => e = .returned (.bool true) ∧ Hid (Below w8.heap.size w8 w') from by
            have hr2 : W.ownsRow w8.heap.size 9 1 (.slice va N vc) (S ++ C).length (strVals (S ++ C)) := by rw [hN2]; exact hr
            obtain ⟨va2, vc2, e2, hs2⟩ := readsStrs_own (ss := S ++ C) hr2
            injection e2 with e2 _ _
            subst e2
            have h0 := same_any ra rc (S ++ C) va vc (S ++ C) W (strsAt_below HSr.out hb) hs2 (by omega)
            rw [hN2] at h0
            refine h0.mono ?_
            rintro e w' ⟨rfl, h9⟩
            exact ⟨by unfold sameB; rw [decide_eq_true rfl], Lib.hid (below_step hb h9)⟩))
          have HSg := Lib.hid (fun (W : World) (hb : Hid (Below w8.heap.size w8 W)) => (show Calls Tryz.prog 23 #[.pointer (some ⟨lg2, 0, none⟩)] W fun e w' => e = .returned (.int .i64 2) ∧ W = w' from logSegment_any lg2 b kk _ W (Blk.below HL2.out hb.out)))
          have HZ2 := Lib.hid (fun (W : World) (hb : Hid (Below w8.heap.size w8 W)) => (show Calls Tryz.prog 24 #[.pointer (some ⟨lg2, 0, none⟩)] W fun e w' => e = .returned (.int .i64 s.length) ∧ W = w' from logSize_any lg2 b kk _ W (Blk.below HL2.out hb.out)))
          have HZ1 := Lib.hid (fun (W : World) (hb : Hid (Below w8.heap.size w8 W)) => (show Calls Tryz.prog 24 #[.pointer (some ⟨lg, 0, none⟩)] W fun e w' => e = .returned (.int .i64 s.length) ∧ W = w' from logSize_any lg b kk _ W (Blk.below HR8.out.log hb.out)))
          have HKc := Lib.hid (fun (W : World) (hb : Below w8.heap.size w8 W) => (show W.cell? ⟨g, 0, none⟩ = some (.string ⟨#[115, 101, 103, 45, 48, 48, 48, 48, 48, 48, 48, 50]⟩) ∧ W.cell? ⟨wa, 2, none⟩ = some (.pointer (some ⟨lg, 0, none⟩)) from ⟨by rw [hb.cell (p := ⟨g, 0, none⟩) hgl]; exact hg, (Blk.below HR8.out.wat hb).cell 2⟩))
          have HAw := Lib.hid (fun (W : World) (hb : Hid (Below w8.heap.size w8 W)) => (show Calls Tryz.prog 16 #[] W fun e w' => e = .returned (.bool true) ∧ Hid (Below w.heap.size w w') ∧ (w'.cell? ⟨g, 0, none⟩ = some (.string ⟨#[115, 101, 103, 45, 48, 48, 48, 48, 48, 48, 48, 50]⟩) ∧ w'.cell? ⟨wa, 2, none⟩ = some (.pointer (some ⟨lg, 0, none⟩))) from by
            refine (wawake_any W).mono ?_
            rintro e w' ⟨rfl, h9⟩
            exact ⟨rfl, Lib.hid (below_step (HR8.out.own.bel.trans (hb.out.mono HR8.out.own.sz)) h9), HKc.out _ (below_step hb.out h9)⟩))
          have HE0 := Lib.hid (show (w8.alloc (.cells #[] 9)).drew.ownsRow w8.heap.size 9 1 (.slice (some ⟨w8.heap.size, 0, none⟩) 0 0) 0 (strVals []) from (World.ownsRow_lit w8 #[] 0 (Nat.le_refl _) (Nat.zero_le _) rfl).drew)
          have HB0 := Lib.hid (show Below w8.heap.size w8 (w8.alloc (.cells #[] 9)).drew from ((Below.refl _ w8).alloc (Nat.le_refl _) _).drew)
          go_upto_region 20 with (fail)
          clear HR5 HQ5 H4 R4 HAz HSz HCz hA8 hi hi2 hk hk2 hlt hgl hg hnb hN2
          have hk0 := HKc.out _ (Below.refl _ w8).drew
          have hk1 := HKc.out _ HB0.out
          go_region_held3 (fun w' => w'.cell? ⟨g, 0, none⟩ = some (.string ⟨#[115, 101, 103, 45, 48, 48, 48, 48, 48, 48, 48, 50]⟩) ∧ w'.cell? ⟨wa, 2, none⟩ = some (.pointer (some ⟨lg, 0, none⟩)))
            (first | exact hk13 | exact hk11 | exact hk10 | exact hk9 | exact hk1 | exact hk0 | go_keep)
            (first
            | (refine step_append_rows (by rfl) _ _ (by rfl) w8.heap.size bS (.slice (some ⟨w8.heap.size, 0, none⟩) 0 0) (.slice x2 S.length y2) 0 S.length S.length [] S (by rfl) (by rfl) HE0.out (ownsRow_below HrS.out HB0.out) (by omega) (by omega) (HB0.out.size) ?_; intro va1 vc1 w9 hr9 hb9; have HB9 := Lib.hid (HB0.out.trans hb9); have hk9 := HKc.out _ HB9.out)
            | (refine step_append_rows (by rfl) _ _ (by rfl) w8.heap.size bC (.slice va1 S.length vc1) (.slice x3 C.length y3) S.length C.length N S C (by rfl) (by rfl) hr9 (ownsRow_below HrC.out HB9.out) hN (by omega) (HB9.out.size) ?_; intro va2 vc2 w10 hr10 hb10; have HB10 := Lib.hid (HB9.out.trans hb10); have hk10 := HKc.out _ HB10.out)
            | (go_at_call 22; refine (HSm.out _ _ _ HB10.out hr10).mono ?_; rintro e w11 ⟨rfl, HB11⟩; have hk11 := HKc.out _ HB11.out)
            | (go_at_call 23; refine (HSg.out _ HB11).mono ?_; rintro e w12 ⟨rfl, rfl⟩)
            | (go_at_call 24; refine (HZ2.out _ HB11).mono ?_; rintro e w12 ⟨rfl, rfl⟩)
            | (go_at_call 24; refine (HZ1.out _ HB11).mono ?_; rintro e w12 ⟨rfl, rfl⟩)
            | (go_at_call 16; refine (HAw.out _ HB11).mono ?_; rintro e w13 ⟨rfl, HB13, hk13⟩))
          all_goals go_wp2_with fail
          all_goals go_ret
          all_goals exact ⟨rfl, HB13.out⟩
end Go.Proofs.YtkllnihhhgaojaaGreatDoor
