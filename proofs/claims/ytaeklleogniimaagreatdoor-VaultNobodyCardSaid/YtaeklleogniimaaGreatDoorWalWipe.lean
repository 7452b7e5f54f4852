/- Noughts laid behind a log's end: wal.(*Log).wipe. Conditions: sizes. -/
import Derived.Test.YtaeklleogniimaaGreatDoorWalLoad
namespace Go.Proofs.YtaeklleogniimaaGreatDoor
open Go Go.RowKit
set_option linter.unusedVariables false

def segsL (names : List ByteArray) : List Nat := names.reverse.filterMap wnum
def segsP (P : PS) : List Nat := segsL (P.files.map PF.name)
def intVals (l : List Nat) : List Value := l.map fun n : Nat => Value.int .i64 (n : Int)
theorem segsL_drop {names : List ByteArray} {r : Nat} (h : r < names.length) : segsL (names.drop r) = segsL (names.drop (r + 1)) ++ (wnum names[r]).toList := by
  unfold segsL
  rw [List.drop_eq_getElem_cons h, List.reverse_cons, List.filterMap_append]
  show _ ++ List.filterMap wnum [names[r]] = _
  cases hq : wnum names[r] with
  | none => simp [hq]
  | some n => simp [hq]
theorem wgo_lt : ∀ (l : List UInt8) (n m k : Nat), n < 10 ^ k → wgo n l = some m → m < 10 ^ (k + l.length)
  | [], n, m, k, h, e => by
    injection e with e
    rw [← e]
    exact h
  | c :: r, n, m, k, h, e => by
    unfold wgo at e
    split at e
    · cases e
    · have hc := c.toNat_lt
      have h2 := wgo_lt r _ m (k + 1) (by rw [Nat.pow_succ]; omega) e
      rw [List.length_cons, show k + (r.length + 1) = k + 1 + r.length by omega]
      exact h2
theorem wnum_lt {s : ByteArray} {n : Nat} (h : wnum s = some n) : n < 100000000 := by
  unfold wnum at h
  split at h
  · rename_i h12
    have := wgo_lt _ 0 n 0 (by decide) h
    rw [List.length_drop, h12.1] at this
    exact this
  · cases h
theorem segsL_lt {names : List ByteArray} : ∀ n ∈ segsL names, n < 100000000 := by
  intro n hn
  obtain ⟨s, _, hs⟩ := List.mem_filterMap.1 hn
  exact wnum_lt hs
theorem info_intW : (Tryz.prog.info? 3).map (fun i => (i.zero, i.size, i.bytes)) = some (some (.int .i64 0), 1, 8) := by kernel_rfl
theorem segsL_len (names : List ByteArray) : (segsL names).length ≤ names.length := by
  unfold segsL
  have := List.length_filterMap_le wnum names.reverse
  rw [List.length_reverse] at this
  exact this
set_option maxRecDepth 100000 in
set_option maxHeartbeats 1000000 in
theorem segments_off (b : Nat) (S : DSt) (w : World) (h : DiskAt w b S) (ho : S.off = true) :
    Calls Tryz.prog 77 #[.pointer (some ⟨b, 0, none⟩)] w fun e w' => e = .returned (.tuple #[.slice none 0 0, .int .i64 14]) ∧ w = w' := by
  have HL := Lib.hid (list_off b S w h ho)
  clear h
  go_enter Tryz.func77, Tryz.ntmps77
  go_wp2_with fail
  refine HL.out.mono ?_
  rintro e w' ⟨rfl, rfl⟩
  go_wp2_with fail
  go_ret2
  exact ⟨rfl, rfl⟩
set_option maxRecDepth 100000 in
set_option maxHeartbeats 1000000 in
theorem segments_on (b : Nat) (S : DSt) (w : World) (h : DiskAt w b S) (ho : S.off = false) (hl : S.files.length ≤ 1000000000) :
    Calls Tryz.prog 77 #[.pointer (some ⟨b, 0, none⟩)] w fun e w' => ∃ v, e = .returned (.tuple #[v, .int .i64 0]) ∧ w'.ownsRow w.heap.size 3 1 v (segsP S.pl).length (intVals (segsP S.pl)) ∧ Below w.heap.size w w' := by
  have HL := Lib.hid (list_ok b S w h ho hl)
  have hn : segsP S.pl = segsL (namesOf S.files) := by
    unfold segsP namesOf
    rw [pl_files, List.map_map]
    rfl
  have hnl : (namesOf S.files).length = S.files.length := by unfold namesOf; rw [List.length_map]
  rw [hn]
  rw [← hnl] at HL hl
  generalize namesOf S.files = names at HL hl ⊢
  clear h hn hnl ho
  have HSeg := Lib.hid (fun s W => walNumber_any s W)
  go_enter Tryz.func77, Tryz.ntmps77
  go_wp2_with fail
  refine HL.out.mono ?_
  rintro e w1 ⟨v, rfl, hrow, hb1⟩
  obtain ⟨ad, cap, rfl⟩ := row_shape hrow
  have HB1 := Lib.hid hb1
  have HS1 := Lib.hid hrow
  clear hrow hb1 HL
  go_wp2_with fail
  go_loopw [6, 7] (fun u i wr => ∃ r : Nat, r ≤ names.length ∧ i = .int .i64 ((r : Int) - 1) ∧ Hid (wr.ownsRow w.heap.size 3 1 u (segsL (names.drop r)).length (intVals (segsL (names.drop r)))) ∧ Hid (Below w.heap.size w wr) ∧ Hid (wr.ownsRow w.heap.size 9 1 (.slice ad names.length cap) names.length (strVals names))) (fun _ i _ => (intOf i + 1).toNat)
  case atStart =>
    exact ⟨names.length, Nat.le_refl _, rfl, Lib.hid (by rw [List.drop_length]; exact World.ownsRow_nil w1 w.heap.size 3 1), HB1, HS1⟩
  case round =>
    obtain ⟨r, hr, rfl, HO, HB, HS⟩ := hrel
    by_cases h0 : r = 0
    · subst h0
      have h0i : ¬ ((0 : Int) ≤ ((0 : Nat) : Int) - 1) := by omega
      go_wp2_with fail
      go_ret2
      exact ⟨_, rfl, HO.out, HB.out⟩
    · obtain ⟨x, rfl⟩ : ∃ x, r = x + 1 := ⟨r - 1, by omega⟩
      have hxl : x < names.length := by omega
      have hxi : (((x + 1 : Nat) : Int) - 1) = (x : Int) := by omega
      obtain ⟨ad2, cap2, hv2, hst⟩ := readsStrs_own HS.out
      injection hv2 with hv3 _ hv5
      subst hv3; subst hv5
      rcases hst with hnil | ⟨g, off, rfl, hgl, hc⟩
      · rw [hnil] at hxl; simp at hxl
      · have cs := hc x hxl
        have hdr := segsL_drop hxl
        have hsl := segsL_len (names.drop (x + 1))
        have hdl : (names.drop (x + 1)).length ≤ names.length := by rw [List.length_drop]; omega
        generalize names[x] = s at cs hdr
        have HNum := Lib.hid (HSeg.out s)
        rw [hxi]
        clear hc
        cases hq : wnum s with
        | none =>
          rw [hq] at hdr HNum
          have HDr : Hid (segsL (names.drop x) = segsL (names.drop (x + 1))) := Lib.hid (by rw [hdr]; exact List.append_nil _)
          clear hdr hq
          unfold numVal at HNum
          go_wp2_with fail
          refine (HNum.out _).mono ?_
          rintro e w2 ⟨rfl, hb2⟩
          have HO2 := Lib.hid (ownsRow_below HO.out hb2)
          rw [← HDr.out] at HO2
          have HS2 := Lib.hid (ownsRow_below HS.out hb2)
          have HB2 := Lib.hid (below_step HB.out hb2)
          clear hb2 HO HS HB HNum
          go_wp2_with fail
          go_roundw
          case rel => exact ⟨x, by omega, rfl, HO2, HB2, HS2⟩
          case measure => simp [intOf]
        | some m =>
          rw [hq] at hdr HNum
          have hdr2 : segsL (names.drop x) = segsL (names.drop (x + 1)) ++ [m] := hdr
          have HDr := Lib.hid hdr2
          clear hdr hdr2 hq
          unfold numVal at HNum
          go_wp2_with fail
          refine (HNum.out _).mono ?_
          rintro e w2 ⟨rfl, hb2⟩
          have hown := ownsRow_below HO.out hb2
          have HS2 := Lib.hid (ownsRow_below HS.out hb2)
          have HB2 := Lib.hid (below_step HB.out hb2)
          obtain ⟨ua, uc, hu⟩ := row_shape hown
          subst hu
          clear hb2 HO HS HB HNum cs
          go_wp2_with (at_builtin; refine append_own1 rfl _ _ 41 rfl w.heap.size 3 1 8 Tryz.underlying41 _ info_intW rfl (by decide) _ _ _ rfl hown w2.heap.size rfl [.int .i64 (m : Int)] rfl rfl (by simp [Value.oneCell']) ?c1 ?c2 ?c3 ?_)
          case c1 => unfold maxLen; omega
          case c2 => omega
          case c3 => exact HB2.out.size
          intro v' w3 hown3 hgrow
          have HO3 : Hid (w3.ownsRow w.heap.size 3 1 v' (segsL (names.drop x)).length (intVals (segsL (names.drop x)))) := Lib.hid (by
            rw [HDr.out, List.length_append]
            unfold intVals
            rw [List.map_append]
            exact hown3)
          have HS3 := Lib.hid (row_grown (HS2.out.alloc (.cells #[Value.int .i64 (m : Int)] 3)) hgrow (fun g hg e => row_ne_row HS2.out hown (by decide) hg e))
          have HB3 := Lib.hid ((HB2.out.alloc HB2.out.size (.cells #[Value.int .i64 (m : Int)] 3)).grown hgrow (Nat.le_trans HB2.out.size (by rw [World.size_alloc]; exact Nat.le_succ _)) (fun g hg => (hown.lt g hg).1))
          clear hown3 hgrow hown HS2 HB2
          go_wp2_with fail
          go_roundw
          case rel => exact ⟨x, by omega, rfl, HO3, HB3, HS3⟩
          case measure => simp [intOf]
end Go.Proofs.YtaeklleogniimaaGreatDoor
namespace Go.Proofs.YtaeklleogniimaaGreatDoor
open Go Go.RowKit
set_option linter.unusedVariables false

def allZero (s : ByteArray) : Bool := s.data.toList.all fun b => b == 0
/-- what stands behind a log's end made noughts -/
def wwipe (P : PS) (L : LG) : Int × PS :=
  if (P.size (wname L.n)).2 ≠ 0 then ((P.size (wname L.n)).2, P)
  else if (P.read (wname L.n) L.e ((P.size (wname L.n)).1 - (L.e : Int))).2 ≠ 0 then ((P.read (wname L.n) L.e ((P.size (wname L.n)).1 - (L.e : Int))).2, P)
  else if allZero (P.read (wname L.n) L.e ((P.size (wname L.n)).1 - (L.e : Int))).1 = true then (0, P)
  else if (P.write (wname L.n) L.e (zeros (P.read (wname L.n) L.e ((P.size (wname L.n)).1 - (L.e : Int))).1.size)).1 ≠ 0 then P.write (wname L.n) L.e (zeros (P.read (wname L.n) L.e ((P.size (wname L.n)).1 - (L.e : Int))).1.size)
  else (P.write (wname L.n) L.e (zeros (P.read (wname L.n) L.e ((P.size (wname L.n)).1 - (L.e : Int))).1.size)).2.syncR
theorem dropWhile_nil {l : List UInt8} : l.dropWhile (· == 0) = [] ↔ l.all (fun b => b == 0) = true := by
  induction l with
  | nil => simp
  | cons a l ih =>
    by_cases h : a = 0
    · subst h; simp [ih]
    · have hb : (a == 0) = false := by simpa using h
      simp [hb]
theorem trim_zero (l : List UInt8) : Lib.trimB l 0 = [] ↔ l.all (fun b => b == 0) = true := by
  unfold Lib.trimB Lib.trimLeftB Lib.trimRightB
  rw [dropWhile_nil]
  constructor
  · intro h
    have h1 : l.reverse.dropWhile (· == 0) = [] := by
      generalize hd : l.reverse.dropWhile (· == 0) = d at h
      cases d with
      | nil => rfl
      | cons a r =>
        have ha : (a == 0) = false := by
          have := List.head?_dropWhile_not (fun b : UInt8 => b == 0) l.reverse
          rw [hd] at this
          simpa using this
        rw [List.all_reverse] at h
        simp [ha] at h
    have := dropWhile_nil.1 h1
    rwa [List.all_reverse] at this
  · intro h
    have h1 : l.reverse.dropWhile (· == 0) = [] := dropWhile_nil.2 (by rw [List.all_reverse]; exact h)
    rw [h1]
    rfl
theorem repeat_zero (n : Nat) : (⟨(Lib.repeatL [0] n).toArray⟩ : ByteArray) = zeros n := by
  have : Lib.repeatL [0] n = List.replicate n 0 := by
    induction n with
    | zero => rfl
    | succ n ih => rw [List.replicate_succ, ← ih]; rfl
  rw [this]
  rfl
theorem sync_pl {n : Nat} {b : Nat} {S : DSt} {w : World} (h : DiskAt w b S) (hok : OkP n S.pl) (hn : n ≤ 1000000000) :
    Calls Tryz.prog 145 #[.pointer (some ⟨b, 0, none⟩)] w fun e w' => e = .returned (.int .i64 S.pl.syncR.1) ∧ ∃ S', Dev b S w S' w' ∧ S'.pl = S.pl.syncR.2 := by
  cases ho : S.off with
  | true =>
    have e0 : S.pl.syncR = (14, S.pl) := if_pos ho
    rw [e0]
    refine (sync_off b S w h ho).mono ?_
    rintro e w' ⟨rfl, rfl⟩
    exact ⟨rfl, S, Dev.refl h, rfl⟩
  | false =>
    have hno : ¬ (S.pl.off = true) := by show ¬ (S.off = true); rw [ho]; decide
    have e0 : S.pl.syncR = (0, S.pl.sync) := if_neg hno
    rw [e0]
    obtain ⟨_, hl, hsm, _, hwl, _⟩ := hok.ready hn
    refine (sync_ok b S w h ho hl hsm hok.wait hwl).mono ?_
    rintro e w' ⟨rfl, fs, hD, hpl⟩
    refine ⟨rfl, _, hD, ?_⟩
    show (PS.mk (fs.map DFile.pl) _ _ _ _ _ _) = _
    rw [hpl]
    rfl
theorem OkP.syncR {n : Nat} {P : PS} (h : OkP n P) : OkP n P.syncR.2 := by
  unfold PS.syncR
  split
  · exact h
  · exact h.sync
theorem OkP.wipe {n : Nat} {P : PS} (h : OkP n P) (L : LG) : OkP (n + 2097152) (wwipe P L).2 := by
  unfold wwipe
  split
  · exact h.mono (by omega)
  · split
    · exact h.mono (by omega)
    · split
      · exact h.mono (by omega)
      · split
        · exact h.write2 _ _ _
        · exact (h.write2 _ _ _).syncR
set_option maxRecDepth 100000 in
set_option maxHeartbeats 3000000 in
theorem wipe_any (b k mb lg n : Nat) (S : DSt) (B : List ByteArray) (L : LG) (w : World) (h : Rg w b k mb S B) (hlg : LogAt w lg b k L) (hL : L.Ok) (hok : OkP n S.pl) (hn : n ≤ 900000000) :
    Calls Tryz.prog 83 #[.pointer (some ⟨lg, 0, none⟩)] w fun e w' => e = .returned (.int .i64 (wwipe S.pl L).1) ∧ ∃ S', S'.pl = (wwipe S.pl L).2 ∧ Dev b S w S' w' := by
  have hz := size_small hok (wname L.n)
  have hLe := hL.e
  have HZ := Lib.hid (show ∀ W, Hid (Below w.heap.size w W) → Calls Tryz.prog 146 #[.pointer (some ⟨b, 0, none⟩), .string (wname L.n)] W fun e W' => e = .returned (.tuple #[.int .i64 (S.pl.size (wname L.n)).1, .int .i64 (S.pl.size (wname L.n)).2]) ∧ Hid (Below w.heap.size w W') from fun W hb => (sz_any b n S (wname L.n) W (h.dev.below hb.out) hok (by omega)).mono fun e W' he => ⟨he.1, he.2 ▸ hb⟩)
  have HN := Lib.hid (show ∀ W, Hid (Below w.heap.size w W) → Calls Tryz.prog 79 #[.int .i64 L.n] W fun e W' => e = .returned (.string (wname L.n)) ∧ Hid (Below w.heap.size w W') from fun W hb => (walName_any L.n W hL.n).mono fun e W' he => ⟨he.1, Lib.hid (below_step hb.out he.2)⟩)
  have hrs := read_small hok (wname L.n) L.e ((S.pl.size (wname L.n)).1 - (L.e : Int))
  have HRd := Lib.hid (show ∀ W, Hid (Below w.heap.size w W) → Calls Tryz.prog 147 #[.pointer (some ⟨b, 0, none⟩), .string (wname L.n), .int .i64 L.e, .int .i64 ((S.pl.size (wname L.n)).1 - (L.e : Int))] W fun e W' => e = .returned (.tuple #[.string (S.pl.read (wname L.n) L.e ((S.pl.size (wname L.n)).1 - (L.e : Int))).1, .int .i64 (S.pl.read (wname L.n) L.e ((S.pl.size (wname L.n)).1 - (L.e : Int))).2]) ∧ Hid (Below w.heap.size w W') from fun W hb => (rd_any b n S (wname L.n) L.e _ W (h.dev.below hb.out) hok (by omega) (by omega) (by omega)).mono fun e W' he => ⟨he.1, Lib.hid (below_step hb.out he.2)⟩)
  have hlt := hlg.lt
  have HK := Lib.hid (show ∀ W, Hid (Below w.heap.size w W) → W.cell? ⟨lg, 0, none⟩ = some (.pointer (some ⟨b, 0, none⟩)) ∧ W.cell? ⟨lg, 2, none⟩ = some (.int .i64 L.n) ∧ W.cell? ⟨lg, 3, none⟩ = some (.int .i64 L.e) from fun W hb => ⟨(hb.out.cell (p := ⟨lg, 0, none⟩) hlt).trans (hlg.cell 0), (hb.out.cell (p := ⟨lg, 2, none⟩) hlt).trans (hlg.cell 2), (hb.out.cell (p := ⟨lg, 3, none⟩) hlt).trans (hlg.cell 3)⟩)
  have HD0 := Lib.hid (fun W (hb : Below w.heap.size w W) => (Dev.refl h.dev).below hb)
  have HD := Lib.hid (fun t W (hb : Below w.heap.size w W) => write_any b S (wname L.n) L.e t W (h.dev.below hb) (hok.ready (by omega)) (by simp [Lit.wf, IntKind.min, IntKind.max, IntKind.bits, IntKind.signed]; omega))
  have HOk := Lib.hid hok
  have HNF := Lib.hid (hlg.not_foot h)
  have HLg := Lib.hid hlg
  generalize hR : wwipe S.pl L = R
  unfold wwipe at hR
  generalize S.pl.read (wname L.n) L.e ((S.pl.size (wname L.n)).1 - (L.e : Int)) = RD at HRd hrs hR
  generalize S.pl.size (wname L.n) = SZ at HZ hz HRd hR
  have HR := Lib.hid hR
  have c0 : w.cell? ⟨lg, 0, none⟩ = some (.pointer (some ⟨b, 0, none⟩)) := hlg.cell 0
  have c2 : w.cell? ⟨lg, 2, none⟩ = some (.int .i64 L.n) := hlg.cell 2
  have hA0 : Hid (Below w.heap.size w w.drew) := Lib.hid (Below.refl _ w).drew
  have HLn := Lib.hid hL
  clear h hok hR hlg hL
  go_enter Tryz.func83, Tryz.ntmps83
  go_upto_region 1 with (fail)
  go_region_held3 (fun w' => w'.cell? ⟨lg, 0, none⟩ = some (.pointer (some ⟨b, 0, none⟩)) ∧ w'.cell? ⟨lg, 2, none⟩ = some (.int .i64 L.n))
    (first | exact ⟨(HK.out _ (by assumption)).1, (HK.out _ (by assumption)).2.1⟩ | go_keep)
    (first
      | (go_at_call 79; refine (HN.out _ (by assumption)).mono ?_; rintro e w1 ⟨rfl, hA1⟩)
      | (go_at_call 146; refine (HZ.out _ (by assumption)).mono ?_; rintro e w2 ⟨rfl, hA2⟩))
  obtain ⟨sz, se⟩ := SZ
  dsimp only at hz HZ HRd HR
  clear HZ c0 c2 hA0 hA1
  by_cases hz0 : se = 0
  · subst hz0
    have hA2d : Hid (Below w.heap.size w w2.drew) := Lib.hid hA2.out.drew
    have hwr : IntKind.i64.wrap (sz - (L.e : Int)) = sz - (L.e : Int) := by rw [IntKind.wrap_i64]; omega
    go_upto_region 4 with (fail)
    have c0 := (HK.out _ hA2).1
    have c2 := (HK.out _ hA2).2.1
    have c3 := (HK.out _ hA2).2.2
    go_region_held3 (fun w' => w'.cell? ⟨lg, 0, none⟩ = some (.pointer (some ⟨b, 0, none⟩)) ∧ w'.cell? ⟨lg, 2, none⟩ = some (.int .i64 L.n) ∧ w'.cell? ⟨lg, 3, none⟩ = some (.int .i64 L.e))
      (first | exact HK.out _ (by assumption) | go_keep)
      (first
        | (go_at_call 79; refine (HN.out _ (by assumption)).mono ?_; rintro e w3 ⟨rfl, hA3⟩)
        | (go_at_call 147; refine (HRd.out _ (by assumption)).mono ?_; rintro e w4 ⟨rfl, hA4⟩))
    obtain ⟨rest, re⟩ := RD
    dsimp only at hrs HRd HR
    clear HRd c0 c2 c3 hA2 hA2d hA3
    by_cases hr0 : re = 0
    · subst hr0
      have HTr := Lib.hid (Tryz.strings_Trim_one rest 0 (by decide) w4 (by omega))
      have htz := trim_zero rest.data.toList
      generalize Lib.trimB rest.data.toList 0 = T at HTr htz
      cases haz : allZero rest with
      | true =>
        have hT : T = [] := htz.2 haz
        subst hT
        have HE : Hid (R = (0, S.pl)) := Lib.hid (by rw [← HR.out, if_neg (fun h => h rfl), if_neg (fun h => h rfl), if_pos haz])
        clear HR htz haz
        go_wp2_with fail
        refine HTr.out.mono ?_
        rintro e w5 ⟨rfl, hw5⟩
        have HB5 : Hid (Below w.heap.size w w5) := Lib.hid (by
          rcases hw5 with rfl | rfl
          · exact hA4.out
          · exact hA4.out.drew)
        clear hw5 HTr
        go_wp2_with fail
        go_ret
        exact ⟨by rw [HE.out]; rfl, S, by rw [HE.out], HD0.out _ HB5.out⟩
      | false =>
        have hT : T ≠ [] := fun e => by rw [show allZero rest = true from htz.1 e] at haz; cases haz
        have hTs : 0 < (⟨T.toArray⟩ : ByteArray).size := by
          show 0 < T.toArray.size
          rw [List.size_toArray]
          exact List.length_pos_iff.2 hT
        have hem := notEmpty ⟨T.toArray⟩ hTs
        have hnil : ¬ (⟨T.toArray⟩ : ByteArray).toList = [] := by intro h; rw [h] at hem; simp at hem
        generalize (⟨T.toArray⟩ : ByteArray) = TT at HTr hem hnil hTs
        have HR2 : Hid ((if (S.pl.write (wname L.n) L.e (zeros rest.size)).1 ≠ 0 then S.pl.write (wname L.n) L.e (zeros rest.size) else (S.pl.write (wname L.n) L.e (zeros rest.size)).2.syncR) = R) := Lib.hid (by have h5 := HR.out; rw [if_neg (fun h => h rfl), if_neg (fun h => h rfl), if_neg (by rw [haz]; decide)] at h5; exact h5)
        clear HR htz haz hT
        go_wp2_with fail
        refine HTr.out.mono ?_
        rintro e w5 ⟨rfl, hw5⟩
        have HB5 : Hid (Below w.heap.size w w5) := Lib.hid (by
          rcases hw5 with rfl | rfl
          · exact hA4.out
          · exact hA4.out.drew)
        have HZs := zeros_size rest.size
        have HRep := Lib.hid (show ∀ W, Hid (Below w.heap.size w W) → Calls Tryz.prog 151 #[.string ⟨#[0]⟩, .int .i64 (rest.size : Nat)] W fun e W' => e = .returned (.string (zeros rest.size)) ∧ Hid (Below w.heap.size w W') from fun W hb => (Tryz.strings_Repeat ⟨#[0]⟩ rest.size W (by omega) (by show 1 * rest.size ≤ _; omega)).mono fun e W' he => ⟨by rw [he.1]; show Ending.returned (.string ⟨(Lib.repeatL [0] rest.size).toArray⟩) = _; rw [repeat_zero], Lib.hid (below_step hb.out he.2)⟩)
        have HWr := Lib.hid (show ∀ W, Hid (Below w.heap.size w W) → Calls Tryz.prog 150 #[.pointer (some ⟨b, 0, none⟩), .string (wname L.n), .int .i64 L.e, .string (zeros rest.size)] W fun e W' => e = .returned (.int .i64 (S.pl.write (wname L.n) L.e (zeros rest.size)).1) ∧ Hid (LogAt W' lg b k L ∧ ∃ S', Dev b S w S' W' ∧ S'.pl = (S.pl.write (wname L.n) L.e (zeros rest.size)).2) from fun W hb => (HD.out (zeros rest.size) W hb.out (by rw [HZs]; unfold maxLen; omega)).mono fun e W' he => by
          obtain ⟨he1, S', hd, hpl⟩ := he
          have hd2 := Dev.after hb.out hd
          exact ⟨he1, Lib.hid ⟨Blk.touch HLg.out hd2.touch HNF.out.1, S', hd2, hpl⟩⟩)
        have HOk2 := Lib.hid (HOk.out.write2 (wname L.n) L.e (zeros rest.size))
        generalize zeros rest.size = ZZ at HRep HWr HR2 HOk2 HZs
        generalize S.pl.write (wname L.n) L.e ZZ = WRes at HWr HR2 HOk2
        have hA5d : Hid (Below w.heap.size w w5.drew) := Lib.hid HB5.out.drew
        have c0 := (HK.out _ HB5).1
        have c2 := (HK.out _ HB5).2.1
        have c3 := (HK.out _ HB5).2.2
        clear hw5 HTr hA4 HB5
        go_upto_region 7 with (fail)
        go_region_held3 (fun w' => w'.cell? ⟨lg, 0, none⟩ = some (.pointer (some ⟨b, 0, none⟩)) ∧ w'.cell? ⟨lg, 2, none⟩ = some (.int .i64 L.n) ∧ w'.cell? ⟨lg, 3, none⟩ = some (.int .i64 L.e))
          (first | exact hc8 | exact HK.out _ (by assumption) | go_keep)
          (first
            | (go_at_call 79; refine (HN.out _ (by assumption)).mono ?_; rintro e w6 ⟨rfl, hA6⟩)
            | (go_at_call 151; refine (HRep.out _ (by assumption)).mono ?_; rintro e w7 ⟨rfl, hA7⟩)
            | (go_at_call 150; refine (HWr.out _ (by assumption)).mono ?_; rintro e w8 ⟨rfl, hA8⟩; have hc8 : w8.cell? ⟨lg, 0, none⟩ = some (.pointer (some ⟨b, 0, none⟩)) ∧ w8.cell? ⟨lg, 2, none⟩ = some (.int .i64 L.n) ∧ w8.cell? ⟨lg, 3, none⟩ = some (.int .i64 L.e) := ⟨hA8.out.1.cell 0, hA8.out.1.cell 2, hA8.out.1.cell 3⟩))
        have d0 := hc8.1
        clear c0 c2 c3 hc8 hA5d hA6 hA7 HWr HRep HD HN HK
        by_cases hw0 : WRes.1 = 0
        · have HE : Hid (R = WRes.2.syncR) := Lib.hid (by rw [← HR2.out, if_neg (fun h => h hw0)])
          have HSy := Lib.hid (show Calls Tryz.prog 145 #[.pointer (some ⟨b, 0, none⟩)] w8 fun e w' => e = .returned (.int .i64 WRes.2.syncR.1) ∧ Hid (∃ S', S'.pl = WRes.2.syncR.2 ∧ Dev b S w S' w') from by
            obtain ⟨_, S', hd, hpl⟩ := hA8.out
            have hs := sync_pl (n := n + 2097152) hd.at_ (by rw [hpl]; exact HOk2.out) (by omega)
            rw [hpl] at hs
            refine hs.mono ?_
            rintro e w' ⟨rfl, S2, hd2, hp2⟩
            exact ⟨rfl, Lib.hid ⟨S2, hp2, hd.trans hd2⟩⟩)
          rw [hw0]
          clear HR2 hw0
          go_wp2_with fail
          refine HSy.out.mono ?_
          rintro e w9 ⟨rfl, h9⟩
          go_wp2_with fail
          go_ret
          obtain ⟨S2, hp2, hd2⟩ := h9.out
          exact ⟨by rw [HE.out]; rfl, S2, by rw [HE.out]; exact hp2, hd2⟩
        · have HE : Hid (R = WRes) := Lib.hid (by rw [← HR2.out, if_pos hw0])
          have hb : (WRes.1 != 0) = true := by rw [bne_iff_ne]; exact hw0
          clear HR2 hw0
          go_wp2_with fail
          go_ret
          obtain ⟨_, S', hd, hpl⟩ := hA8.out
          exact ⟨by rw [HE.out]; rfl, S', by rw [HE.out]; exact hpl, hd⟩
    · have HE : Hid (R = (re, S.pl)) := Lib.hid (by rw [← HR.out, if_neg (fun h => h rfl), if_pos hr0])
      have hb : (re != 0) = true := by rw [bne_iff_ne]; exact hr0
      clear HR hr0
      go_wp2_with fail
      go_ret
      exact ⟨by rw [HE.out]; rfl, S, by rw [HE.out], HD0.out _ hA4.out⟩
  · have HE : Hid (R = (se, S.pl)) := Lib.hid (by rw [← HR.out, if_pos hz0])
    have hb : (se != 0) = true := by rw [bne_iff_ne]; exact hz0
    clear HR hz0
    go_wp2_with fail
    go_ret
    exact ⟨by rw [HE.out]; rfl, S, by rw [HE.out], HD0.out _ hA2.out⟩
end Go.Proofs.YtaeklleogniimaaGreatDoor
