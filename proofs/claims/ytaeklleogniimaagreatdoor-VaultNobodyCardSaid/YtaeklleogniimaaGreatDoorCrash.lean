/- Crash: what lasts by the fates, and what reads see behind it. Conditions: sizes, the fates lie outside the device. -/
import Derived.Test.YtaeklleogniimaaGreatDoorSync
import Derived.Lib.LazyBuf
namespace Go.Proofs.YtaeklleogniimaaGreatDoor
open Go.RowKit
set_option linter.unusedVariables false

theorem bytes_one (l : List UInt8) : ∀ u ∈ bytesVals l, u.oneCell' = true := by
  intro u hu
  obtain ⟨b, _, rfl⟩ := List.mem_map.1 hu
  rfl
theorem empty_rowD (w : World) (e : TypeId) (sz : Nat) : (w.alloc (.cells #[] e)).ownsRow w.heap.size e sz (.slice (some ⟨w.heap.size, 0, none⟩) 0 0) 0 [] :=
  ⟨by simp, Or.inr ⟨w.heap.size, 0, #[], rfl, Nat.le_refl _, heap_alloc_new w _, Nat.le_refl _, Nat.zero_le _, by simp, by simp⟩⟩
set_option maxRecDepth 100000 in
theorem cloneBytes_any (v : Value) (l : List UInt8) (w : World) (hown : w.ownsRow 0 5 1 v l.length (bytesVals l)) (hn : l.length ≤ 4194304) :
    Calls Tryz.prog 131 #[v] w fun e w' => ∃ v', e = .returned v' ∧ w'.ownsRow w.heap.size 5 1 v' l.length (bytesVals l) ∧ Below w.heap.size w w' := by
  obtain ⟨ad, cap, rfl, _, _, hxl, hnil, hsome⟩ := row_open hown
  have hq := fun w a l c => run_eql_slice_nil (P := Tryz.prog) w 134 5 a l c Tryz.underlying134
  cases ad with
  | none =>
    have h0 : l.length = 0 := hnil rfl
    obtain rfl := List.eq_nil_of_length_eq_zero h0
    clear hown hxl hnil hsome hn h0
    go_enter Tryz.func131, Tryz.ntmps131
    go_wp2_with fail
    go_ret
    exact ⟨_, rfl, World.ownsRow_nil _ _ _ _, Below.refl _ _⟩
  | some x =>
    obtain ⟨g, rfl, _, hgl, hcell⟩ := hsome x rfl
    obtain ⟨i0, hi, hz0, hz1, hz2⟩ := info_parts info_byte
    have hE := empty_rowD w 5 1
    have hnews : ∀ j u, (bytesVals l)[j]? = some u → (w.alloc (.cells #[] 5)).cell? ((⟨g, 0, none⟩ : Addr).add j) = some u := fun j u hj => by
      have hj2 : j < l.length := by
        rcases Nat.lt_or_ge j l.length with h | h
        · exact h
        · rw [List.getElem?_eq_none (by rw [bytesVals_length]; exact h)] at hj; cases hj
      rw [addr_add, (((Below.refl w.heap.size w).alloc (Nat.le_refl _) _).cell (p := ⟨g, j, none⟩) hgl), hcell j hj2]
      exact hj
    have HE := Lib.hid hE
    have Hnews := Lib.hid hnews
    have HA := Lib.hid ((Below.refl w.heap.size w).alloc (Nat.le_refl _) (.cells #[] 5))
    clear hE hnews hown hcell hxl hnil hsome
    go_enter Tryz.func131, Tryz.ntmps131
    go_wp2_with (at_builtin; refine wpList_append_own_at _ rfl _ _ 134 rfl w.heap.size 5 i0 _ 1 1 Tryz.underlying134 hi hz0 hz1 hz2 rfl (by decide) _ _ _ rfl HE.out ⟨g, 0, none⟩ l.length cap (bytesVals l) rfl (by rw [bytesVals_length]; omega) Hnews.out (bytes_one l) (by unfold maxLen; omega) (by omega) (by simp) ?_; intro v' w' hown' hgrow _ hat)
    go_ret
    refine ⟨v', rfl, ?_, HA.out.grown hgrow (by simp) (fun k hk => by cases hk; exact Nat.le_refl _)⟩
    have := hown'
    rw [Nat.zero_add, List.nil_append] at this
    exact this

/-- how many bytes of a piece last -/
def fateN (p : DPiece) (x : Int) : Nat := if x = 2 then p.text.size / 2 else if x = 1 then p.text.size else 0
theorem fateN_le (p : DPiece) (x : Int) : fateN p x ≤ p.text.size := by
  unfold fateN
  by_cases h2 : x = 2
  · rw [if_pos h2]; omega
  · rw [if_neg h2]
    by_cases h1 : x = 1
    · rw [if_pos h1]; exact Nat.le_refl _
    · rw [if_neg h1]; omega
def crashF (l : List (DPiece × Int)) (fs : List PF) : List PF := l.foldl (fun fs q => fs.map (lastF q.1 (fateN q.1 q.2))) fs
theorem crashF_snoc {l : List (DPiece × Int)} {k : Nat} (hk : k < l.length) (fs : List PF) : crashF (l.take (k + 1)) fs = (crashF (l.take k) fs).map (lastF l[k].1 (fateN l[k].1 l[k].2)) := by
  unfold crashF
  rw [List.take_succ_eq_append_getElem hk, List.foldl_append]
  rfl
theorem lastF_zero (p : DPiece) (f : PF) : lastF p 0 f = f := if_neg (by simp)
theorem lastF_cut (p : DPiece) (m : Nat) (f : PF) : lastF { p with text := p.text.extract 0 m } m f = lastF p m f := by
  unfold lastF
  by_cases h : f.id = p.id ∧ 0 < m
  · rw [if_pos h, if_pos h]
    show ({ f with last := layB f.last (spot { p with text := p.text.extract 0 m }) ((p.text.extract 0 m).data.toList.take m) } : PF) = { f with last := layB f.last (spot p) (p.text.data.toList.take m) }
    rw [extract_take, List.take_take, Nat.min_self]
    rfl
  · rw [if_neg h, if_neg h]
/-- a file sees anew what lasts -/
theorem file_seen_set {w w1 : World} {f : DFile} {v : Value} (hF : FileAt w f) (hB : Below w.heap.size w w1) (hrow : w1.ownsRow w.heap.size 5 1 v f.last.length (bytesVals f.last)) :
    FileAt (w1.setCell ⟨f.g, 3, none⟩ v) { f with sv := v, seen := f.last } ∧ Touch (fun k => k = f.g ∨ buf f k) w (w1.setCell ⟨f.g, 3, none⟩ v) ∧ (∀ k, buf { f with sv := v, seen := f.last } k → buf f k ∨ w.heap.size ≤ k) := by
  have hB1 := hF.blk.below hB
  have hT1 : Touch (fun _ => False) w w1 := Touch.of_below hB
  have hl1 := row_touch hF.last hT1 (fun _ _ h => h)
  have T2 : Touch (fun k => k = f.g) w1 (w1.setCell ⟨f.g, 3, none⟩ v) := touch1_set (Touch.refl _ w1) _
  have hgl := hF.blk.lt
  refine ⟨⟨hB1.set 3 _, row_touch hl1 T2 (fun k hk e => row_ne hF.last hF.blk (by decide) (by rw [hk, e])), row_touch (row_base hrow (Nat.zero_le _)) T2 (fun k hk e => ?_), fun k hk e => ?_⟩, ?_, ?_⟩
  · have := (hrow.lt k hk).1; omega
  · have h1 := (hF.last.lt k hk).2
    have h2 := (hrow.lt k e).1
    omega
  · exact (hT1.mono (fun k _ hk => hk.elim)).trans (T2.mono (fun k _ hk => Or.inl hk))
  · intro k hk
    rcases hk with hk | hk
    · exact Or.inl (Or.inl hk)
    · right; exact (hrow.lt k hk).1
def seenF (f : PF) : PF := { f with seen := f.last }

set_option maxRecDepth 100000 in
set_option maxHeartbeats 4000000 in
theorem crash_any (b : Nat) (S : DSt) (fa : Option Addr) (fc : Nat) (l : List Int) (w : World) (h : DiskAt w b S) (hl : S.files.length ≤ 1000000000) (hsm : Small S.files) (hp : ∀ p ∈ S.wait, OkPiece p) (hwl : S.wait.length ≤ 1000000000)
    (hfa : IntsAt .i64 w fa l) (hfo : ∀ g off, l ≠ [] → fa = some ⟨g, off, none⟩ → ¬ foot b S g) (_hll : l.length ≤ 9223372036854775807) :
    Calls Tryz.prog 66 #[.pointer (some ⟨b, 0, none⟩), .slice fa l.length fc] w fun e w' => e = .returned (.tuple #[]) ∧ ∃ fs, Dev b S w { S with files := fs, wv := .slice none 0 0, wait := [], fuse := -1, off := false } w' ∧ fs.map DFile.pl = (crashF (S.wait.zip l) (S.files.map DFile.pl)).map seenF := by
  obtain ⟨ad, cap, hv⟩ := row_shape h.wrow
  have c1 : w.cell? ⟨b, 1, none⟩ = some (.slice ad S.wait.length cap) := by rw [← hv]; exact h.blk.cell 1
  have hbl := h.blk.lt
  have H := Lib.hid h
  have Hv := Lib.hid hv
  have Hsm := Lib.hid (small_pl.2 hsm)
  have Hp := Lib.hid hp
  have Hfa := Lib.hid hfa
  have Hfo := Lib.hid hfo
  clear h hv hsm hp hfa hfo
  go_enter Tryz.func66, Tryz.ntmps66
  go_wp2_with fail
  go_loopw [16] (fun i wr => ∃ (k : Nat) (fs : List DFile), i = .int .i64 k ∧ k ≤ S.wait.length ∧ k ≤ l.length ∧ Hid (fs.length = S.files.length) ∧ Hid (fs.map DFile.pl = crashF ((S.wait.zip l).take k) (S.files.map DFile.pl)) ∧ Hid (SmallP (fs.map DFile.pl)) ∧ Hid (Dev b S w { S with files := fs } wr)) (fun i _ => S.wait.length - (intOf i).toNat)
  case atStart => exact ⟨0, S.files, rfl, Nat.zero_le _, Nat.zero_le _, Lib.hid rfl, Lib.hid (by simp [crashF]), Hsm, Lib.hid (Dev.refl H.out)⟩
  case round =>
    obtain ⟨k, fs, rfl, hk, hk2, Hlen, Hpl, Hsk, HD⟩ := hrel
    by_cases hin : k < S.wait.length ∧ k < l.length
    · obtain ⟨hlt, hlt2⟩ := hin
      obtain ⟨g, cap', hv', hgl, hc⟩ := wait_at HD.out.at_ k hlt
      replace hv' : S.wv = .slice (some ⟨g, 0, none⟩) S.wait.length cap' := hv'
      rw [Hv.out] at hv'
      injection hv' with hv1 hvl hv2
      subst hv1; subst hv2
      clear hvl
      have hzl : k < (S.wait.zip l).length := by rw [List.length_zip]; omega
      have Hsn := Lib.hid (crashF_snoc hzl (S.files.map DFile.pl))
      rw [List.getElem_zip] at Hsn
      have Hpk := Lib.hid (Hp.out _ (List.getElem_mem hlt))
      have hq0 : wr.cell? ⟨g, k * 4, none⟩ = some (.int .i64 S.wait[k].id) := hc 0 (by omega)
      have hq1 : wr.cell? ⟨g, k * 4 + 1, none⟩ = some (.int .i64 S.wait[k].at_) := hc 1 (by omega)
      have hq2 : wr.cell? ⟨g, k * 4 + 2, none⟩ = some (.int .i64 S.wait[k].from_) := hc 2 (by omega)
      have hq3 : wr.cell? ⟨g, k * 4 + 3, none⟩ = some (.string S.wait[k].text) := hc 3 (by omega)
      obtain ⟨fb, off, rfl, hfb, hfc⟩ : ∃ fb off, fa = some ⟨fb, off, none⟩ ∧ fb < wr.heap.size ∧ wr.cell? ⟨fb, off + k, none⟩ = some (.int .i64 l[k]) := by
        rcases Hfa.out with h | ⟨fb, off, h1, h2, h3⟩
        · rw [h] at hlt2; simp at hlt2
        · exact ⟨fb, off, h1, Nat.lt_of_lt_of_le h2 HD.out.touch.size, by rw [HD.out.touch.cell (p := ⟨fb, off + k, none⟩) h2 (Hfo.out fb off (by intro e; rw [e] at hlt2; simp at hlt2) h1)]; exact h3 k hlt2⟩
      generalize S.wait[k] = p at hq0 hq1 hq2 hq3 Hsn Hpk
      have hts : p.text.size ≤ 2097152 := by obtain ⟨h1, h2, h3⟩ := Hpk.out; omega
      generalize l[k] = x at hfc Hsn
      clear hc c1 hzl
      have HL := Lib.hid (fun (t : ByteArray) (m : Nat) (hm : m ≤ t.size) (ht : t.size ≤ p.text.size) (e1 : (fun f => lastF ⟨p.id, p.at_, p.from_, t⟩ m f) = lastF p (fateN p x)) => by
        have hDA := HD.out.below (w2 := wr.alloc (Obj.cells #[Value.int IntKind.i64 p.id, Value.int IntKind.i64 p.at_, Value.int IntKind.i64 p.from_, Value.string t] 198)) ((Below.refl _ _).alloc (Nat.le_refl _) _)
        have hla := last_any b { S with files := fs } ⟨p.id, p.at_, p.from_, t⟩ m _ hDA.at_ (by show fs.length ≤ _; rw [Hlen.out]; exact hl) (small_pl.1 Hsk.out) (by obtain ⟨h1, h2, h3⟩ := Hpk.out; exact ⟨h1, h2, by show p.at_ * 64 + p.from_ + ((t.size : Nat) : Int) ≤ _; omega⟩) hm
        refine Calls.mono hla (R' := fun e w' => e = .returned (.tuple #[]) ∧ ∃ fs2 : List DFile, Hid (fs2.length = S.files.length) ∧ Hid (fs2.map DFile.pl = crashF ((S.wait.zip l).take (k + 1)) (S.files.map DFile.pl)) ∧ Hid (SmallP (fs2.map DFile.pl)) ∧ Hid (Dev b S w { S with files := fs2 } w')) ?_
        rintro e w' ⟨rfl, fs2, hD2, hpl2⟩
        have e2 : fs2.map DFile.pl = (fs.map DFile.pl).map (lastF p (fateN p x)) := by rw [hpl2]; exact congrArg (fun F => List.map F (fs.map DFile.pl)) e1
        refine ⟨rfl, fs2, ?_, ?_, ?_, HD.out.trans (Dev.after ((Below.refl _ _).alloc (Nat.le_refl _) _) hD2)⟩
        · have := congrArg List.length e2
          simp only [List.length_map] at this
          exact this.trans Hlen.out
        · exact e2.trans (by rw [Hsn.out, Hpl.out])
        · show SmallP _
          rw [e2]
          exact small_lastF Hsk.out Hpk.out (fateN_le _ _))
      have HN := Lib.hid (show fateN p x = 0 → Hid (fs.map DFile.pl = crashF ((S.wait.zip l).take (k + 1)) (S.files.map DFile.pl)) from fun h0 => by
        show _ = _
        rw [Hsn.out, ← Hpl.out, h0]
        have : (lastF p 0) = id := funext (fun f => lastF_zero p f)
        rw [this, List.map_id])
      have HDN := Lib.hid (HD.out.below (w2 := wr.alloc (Obj.cells #[Value.int IntKind.i64 p.id, Value.int IntKind.i64 p.at_, Value.int IntKind.i64 p.from_, Value.string p.text] 198)) ((Below.refl _ _).alloc (Nat.le_refl _) _))
      clear Hsn
      by_cases hx2 : x = 2
      · subst hx2
        have hhl := HL.out (p.text.extract 0 (p.text.size / 2)) (p.text.size / 2) (by rw [ByteArray.size_extract]; omega) (by rw [ByteArray.size_extract]; omega) (by
          have : fateN p 2 = p.text.size / 2 := if_pos rfl
          rw [this]
          funext f
          exact lastF_cut p (p.text.size / 2) f)
        have HHL := Lib.hid hhl
        have Hmin := Lib.hid (show min (p.text.size / 2) p.text.size = p.text.size / 2 by omega)
        clear hhl HL HN HDN
        go_wp2_with fail
        rw [Hmin.out]
        refine HHL.out.mono ?_
        rintro e wB ⟨rfl, fs2, Hlen2, Hpl2, Hs2, HD2⟩
        go_wp2_with fail
        go_roundw
        case rel => exact ⟨k + 1, fs2, by go_num, by omega, by omega, Hlen2, Hpl2, Hs2, HD2⟩
        case measure => simp [intOf]; omega
      · by_cases hx1 : x = 1
        · have HF1 := Lib.hid (show x = 1 → fateN p x = p.text.size from fun h => by unfold fateN; rw [if_neg hx2, if_pos h])
          clear hx2
          subst hx1
          have hhl := HL.out p.text p.text.size (Nat.le_refl _) (Nat.le_refl _) (by
            rw [HF1.out rfl])
          have HHL := Lib.hid hhl
          clear hhl HL HN HDN HF1
          go_wp2_with fail
          refine HHL.out.mono ?_
          rintro e wB ⟨rfl, fs2, Hlen2, Hpl2, Hs2, HD2⟩
          go_wp2_with fail
          go_roundw
          case rel => exact ⟨k + 1, fs2, by go_num, by omega, by omega, Hlen2, Hpl2, Hs2, HD2⟩
          case measure => simp [intOf]; omega
        · have hb2 : (x == 2) = false := beq_eq_false_iff_ne.2 hx2
          have hb1 : (x == 1) = false := beq_eq_false_iff_ne.2 hx1
          have Hpl2 := HN.out (by unfold fateN; rw [if_neg hx2, if_neg hx1])
          clear HL HN hx1 hx2
          cases hb0 : (x == 0)
          all_goals
            go_wp2_with fail
            go_roundw
            case rel => exact ⟨k + 1, fs, by go_num, by omega, by omega, Hlen, Hpl2, Hsk, HDN⟩
            case measure => simp [intOf]; omega
    · have Hall := Lib.hid (show (S.wait.zip l).take k = S.wait.zip l from List.take_of_length_le (by rw [List.length_zip]; omega))
      rw [Hall.out] at Hpl
      have HDX := Lib.hid (fun (wx : World) (hb : Below wr.heap.size wr wx) => by
        have h1 := HD.out.below hb
        have h2 := h1.trans (Dev.noWait h1.at_)
        have h3 := h2.trans (Dev.setNum (S' := { S with files := fs, wv := .slice none 0 0, wait := [], fuse := -1 }) h2.at_ 3 (.int .i64 (-1)) rfl rfl rfl rfl rfl)
        exact h3.trans (Dev.setNum (S' := { S with files := fs, wv := .slice none 0 0, wait := [], fuse := -1, off := false }) h3.at_ 4 (.bool false) rfl rfl rfl rfl rfl))
      have hcw0 : wr.cell? ⟨b, 0, none⟩ = some S.fv := HD.out.at_.blk.cell 0
      have hcw1 : wr.cell? ⟨b, 1, none⟩ = some S.wv := HD.out.at_.blk.cell 1
      have hcw3 : wr.cell? ⟨b, 3, none⟩ = some (.int .i64 S.fuse) := HD.out.at_.blk.cell 3
      have hcw4 : wr.cell? ⟨b, 4, none⟩ = some (.bool S.off) := HD.out.at_.blk.cell 4
      have hfw1 := HD.out.at_.blk.free 1
      have hfw3 := HD.out.at_.blk.free 3
      have hfw4 := HD.out.at_.blk.free 4
      have hbr := HD.out.at_.blk.lt
      obtain ⟨ad0, cap0, hv0⟩ := row_shape H.out.frow
      rw [hv0] at hcw0
      have Hv0 := Lib.hid hv0
      clear c1 hv0
      by_cases hlt : k < S.wait.length
      rotate_left
      focus
        obtain rfl : k = S.wait.length := by omega
        have HE := Lib.hid (HDX.out wr (Below.refl _ _))
        clear hin
        go_wp2_with fail
        generalize ((wr.setCell ⟨b, 1, none⟩ (.slice none 0 0)).setCell ⟨b, 3, none⟩ (.int .i64 (-1))).setCell ⟨b, 4, none⟩ (.bool false) = wx at HE ⊢
      rotate_left
      focus
        obtain ⟨g, cap', hv', hgl, hc⟩ := wait_at HD.out.at_ k hlt
        replace hv' : S.wv = .slice (some ⟨g, 0, none⟩) S.wait.length cap' := hv'
        rw [Hv.out] at hv'
        injection hv' with hv1 hvl hv2
        subst hv1; subst hv2
        clear hvl
        have hq0 : wr.cell? ⟨g, k * 4, none⟩ = some (.int .i64 S.wait[k].id) := hc 0 (by omega)
        have hq1 : wr.cell? ⟨g, k * 4 + 1, none⟩ = some (.int .i64 S.wait[k].at_) := hc 1 (by omega)
        have hq2 : wr.cell? ⟨g, k * 4 + 2, none⟩ = some (.int .i64 S.wait[k].from_) := hc 2 (by omega)
        have hq3 : wr.cell? ⟨g, k * 4 + 3, none⟩ = some (.string S.wait[k].text) := hc 3 (by omega)
        generalize S.wait[k] = p at hq0 hq1 hq2 hq3
        have hge : l.length ≤ k := by omega
        have HE := Lib.hid ((HDX.out wr (Below.refl _ _)).below (w2 := World.alloc _ (Obj.cells #[Value.int IntKind.i64 p.id, Value.int IntKind.i64 p.at_, Value.int IntKind.i64 p.from_, Value.string p.text] 198)) ((Below.refl _ _).alloc (Nat.le_refl _) _))
        clear hc hin
        go_wp2_with fail
        generalize World.alloc (((wr.setCell ⟨b, 1, none⟩ (.slice none 0 0)).setCell ⟨b, 3, none⟩ (.int .i64 (-1))).setCell ⟨b, 4, none⟩ (.bool false)) _ = wx at HE ⊢
        clear hq0 hq1 hq2 hq3
      all_goals
        clear hcw0 hcw1 hcw3 hcw4 hfw1 hfw3 hfw4
        go_loopw [66] (fun i wr => ∃ (q : Nat) (fs2 : List DFile), i = .int .i64 q ∧ q ≤ S.files.length ∧ Hid (fs2.length = S.files.length) ∧ Hid (fs2.map DFile.pl = ((fs.map DFile.pl).take q).map seenF ++ (fs.map DFile.pl).drop q) ∧ Hid (Dev b S w { S with files := fs2, wv := .slice none 0 0, wait := [], fuse := -1, off := false } wr)) (fun i _ => S.files.length - (intOf i).toNat)
        case atStart => exact ⟨0, fs, rfl, Nat.zero_le _, Hlen, Lib.hid (by simp), HE⟩
        case round =>
          obtain ⟨q, fs2, rfl, hq, Hlen2, Hpl2, HD2⟩ := hrel
          by_cases hlq : q < S.files.length
          · have hlq2 : q < fs2.length := by rw [Hlen2.out]; exact hlq
            have hlqf : q < fs.length := by rw [Hlen.out]; exact hlq
            obtain ⟨g2, cap2, hv2, hgl2, hc2⟩ := fptrs_at HD2.out.at_ q hlq2
            replace hv2 : S.fv = .slice (some ⟨g2, 0, none⟩) fs2.length cap2 := hv2
            rw [Hv0.out] at hv2
            injection hv2 with hv21 hvl2 hv22
            subst hv21; subst hv22
            clear hvl2
            replace hc2 : wr.cell? ⟨g2, q, none⟩ = some (.pointer (some ⟨fs2[q].g, 0, none⟩)) := hc2
            have hF : FileAt wr fs2[q] := HD2.out.at_.fat _ (List.getElem_mem hlq2)
            have hplq : fs2[q].pl = fs[q].pl := by
              have h1 : (fs2.map DFile.pl)[q]? = some fs2[q].pl := by rw [List.getElem?_map, List.getElem?_eq_getElem hlq2]; rfl
              rw [Hpl2.out, List.getElem?_append_right (by simp; omega)] at h1
              simp only [List.length_map, List.length_take] at h1
              rw [List.getElem?_drop] at h1
              rw [Nat.min_eq_left (by omega), Nat.sub_self, Nat.add_zero, List.getElem?_map, List.getElem?_eq_getElem hlqf] at h1
              simpa using h1.symm
            have hsm : fs2[q].last.length ≤ 4194304 := by
              have h1 := Hsk.out _ (List.mem_map_of_mem (List.getElem_mem hlqf))
              have e2 : fs2[q].last = fs[q].last := congrArg PF.last hplq
              rw [e2]; exact h1.2
            have Hset := Lib.hid (fun (w' : World) (f' : DFile) (hg : f'.g = fs2[q].g) (hF' : FileAt w' f') (ht : Touch (fun j => j = fs2[q].g ∨ buf fs2[q] j) wr w') (hn' : ∀ j, buf f' j → buf fs2[q] j ∨ wr.heap.size ≤ j) =>
              HD2.out.trans (Dev.setFile HD2.out.at_ q hlq2 f' hg hF' ht hn'))
            have HplS : Hid (∀ F : DFile, F.pl = seenF fs2[q].pl → (fs2.set q F).map DFile.pl = ((fs.map DFile.pl).take (q + 1)).map seenF ++ (fs.map DFile.pl).drop (q + 1)) := Lib.hid (fun F hFp => by
              rw [List.map_set, Hpl2.out, take_files (by simpa using hlqf), hFp, hplq, List.getElem_map])
            obtain ⟨M, hM⟩ : ∃ M, M = fs2[q] := ⟨_, rfl⟩
            rw [← hM] at hc2 hF hsm Hset HplS
            clear hM hplq
            obtain ⟨la, lc, hlv⟩ := row_shape hF.last
            have d2 : wr.cell? ⟨M.g, 2, none⟩ = some (.slice la M.last.length lc) := by rw [← hlv]; exact hF.blk.cell 2
            have hcl := cloneBytes_any M.lv M.last wr hF.last hsm
            rw [hlv] at hcl
            have HCL := Lib.hid hcl
            have HF := Lib.hid hF
            clear hF hlv hcl
            go_wp2_with fail
            refine HCL.out.mono ?_
            rintro e wB ⟨v', rfl, hrow, hB⟩
            have hMb := HF.out.blk.below hB
            have e3 : wB.cell? ⟨M.g, 3, none⟩ = some M.sv := hMb.cell 3
            have f3 := hMb.free 3
            obtain ⟨r1, r2, r3⟩ := file_seen_set HF.out hB hrow
            have HDn := Lib.hid (Hset.out _ { M with sv := v', seen := M.last } rfl r1 r2 r3)
            have Hpln := Lib.hid (HplS.out { M with sv := v', seen := M.last } rfl)
            obtain ⟨va, vc, hvs⟩ := row_shape hrow
            rw [hvs] at HDn Hpln
            subst hvs
            clear hMb r1 r2 r3 hrow hB hc2 d2
            go_wp2_with fail
            go_roundw
            case rel => exact ⟨q + 1, _, by go_num, by omega, Lib.hid (by rw [List.length_set]; exact Hlen2.out), Hpln, HDn⟩
            case measure => simp [intOf]; omega
          · obtain rfl : q = S.files.length := by omega
            have Hfin := Lib.hid (show fs2.map DFile.pl = (crashF (S.wait.zip l) (S.files.map DFile.pl)).map seenF by
              rw [Hpl2.out, List.take_of_length_le (by simp [Hlen.out]), List.drop_eq_nil_of_le (by simp [Hlen.out]), List.append_nil, Hpl.out])
            go_wp2_with fail
            go_end0
            exact ⟨rfl, fs2, HD2.out, Hfin.out⟩
end Go.Proofs.YtaeklleogniimaaGreatDoor
