/- The walk of the statement's few: a call with a tree of at most 8 files of at most 2000 bytes. No condition. The walks of the document's Names, name, Path, Order, Within, together, Check. Conditions: texts of at most 2^62 bytes. -/
import Derived.Test.YtaemlplcjjbamaaGreatDoorBClone
import Derived.Test.YtaemlplcjjbamaaGreatDoorBHeld
import Derived.Test.YtaemlplcjjbamaaGreatDoorBTree3
namespace Go.Proofs.YtaemlplcjjbamaaGreatDoor
open Go Go.RowKit
set_option linter.unusedVariables false
def fewCells (fs : List TFile) (k : Nat) : List Value := tfsVals ((fs.take k).map fewF)
theorem fewCells_snoc (fs : List TFile) (k : Nat) (h : k < fs.length) : fewCells fs (k + 1) = fewCells fs k ++ tfV (fewF fs[k]) := by
  unfold fewCells
  rw [List.take_succ_eq_append_getElem h, List.map_append, tfsVals_append]
  simp [tfsVals]
theorem fewCells_8 (fs : List TFile) : fewCells fs (min fs.length 8) = tfsVals (fewL fs) := by
  unfold fewCells fewL
  by_cases h : fs.length ≤ 8
  · rw [Nat.min_eq_left h, List.take_length, List.take_of_length_le h]
  · rw [Nat.min_eq_right (by omega)]
theorem fewL_len (fs : List TFile) : (fewL fs).length = min fs.length 8 := by unfold fewL; rw [List.length_map, List.length_take]; omega
theorem fewL_ok {fs : List TFile} (h : ∀ f ∈ fs, f.path.size ≤ maxLen ∧ f.data.size ≤ maxLen) : ∀ f ∈ fewL fs, f.path.size ≤ maxLen ∧ f.data.size ≤ 2000 := by
  intro f hf
  obtain ⟨g, hg, rfl⟩ := List.mem_map.1 hf
  have := h g (List.mem_of_mem_take hg)
  unfold fewF
  split
  · exact ⟨this.1, by simp; omega⟩
  · exact ⟨this.1, by omega⟩
set_option maxRecDepth 100000 in
set_option maxHeartbeats 4000000 in
theorem few_any (kind gen : Int) (ad : Option Addr) (cap : Nat) (fs : List TFile) (w : World) (h : TfsAt w ad fs) (hl : fs.length ≤ maxLen) :
    Calls Tryz.prog 8 #[.agg #[.int .i64 kind, .int .i64 gen, .slice ad fs.length cap]] w fun e w' => ∃ x y, e = .returned (.agg #[.int .i64 kind, .int .i64 gen, .slice x (fewL fs).length y]) ∧ w'.ownsRow w.heap.size 65 3 (.slice x (fewL fs).length y) (fewL fs).length (tfsVals (fewL fs)) ∧ Below w.heap.size w w' := by
  unfold maxLen at hl
  have hb0 := ((Below.refl w.heap.size w).alloc (Nat.le_refl _) (.cells #[.int .i64 kind, .int .i64 gen, .slice ad fs.length cap] 33)).alloc (by simp) (.cells #[.int .i64 0, .int .i64 0, .slice none 0 0] 33)
  have H := Lib.hid h
  have Q1 := (Blk.new w [.int .i64 kind, .int .i64 gen, .slice ad fs.length cap] 33).alloc (.cells #[.int .i64 0, .int .i64 0, .slice none 0 0] 33)
  have Q2 := Blk.new (w.alloc (.cells #[.int .i64 kind, .int .i64 gen, .slice ad fs.length cap] 33)) [.int .i64 0, .int .i64 0, .slice none 0 0] 33
  rw [show (w.alloc (.cells #[.int .i64 kind, .int .i64 gen, .slice ad fs.length cap] 33)).heap.size = w.heap.size + 1 by simp] at Q2
  have HB0 := Lib.hid hb0
  have HQ1 := Lib.hid Q1
  have HQ2 := Lib.hid Q2
  clear h hb0 Q1 Q2
  go_enter Tryz.func8, Tryz.ntmps8
  go_wp2_with fail
  have Q1 := HQ1.out
  have Q2 := HQ2.out
  have B0 := HB0.out
  generalize (w.alloc (.cells #[.int .i64 kind, .int .i64 gen, .slice ad fs.length cap] 33)).alloc (.cells #[.int .i64 0, .int .i64 0, .slice none 0 0] 33) = w0 at Q1 Q2 B0 ⊢
  obtain ⟨q, hq⟩ : ∃ q, q = w.heap.size := ⟨_, rfl⟩
  rw [← hq] at Q1 Q2 ⊢
  have Hq := Lib.hid hq
  have HQ1' := Lib.hid Q1
  have HQ2' := Lib.hid Q2
  have HB0' := Lib.hid B0
  have HT0 := Lib.hid (H.out.below B0)
  clear HQ1 HQ2 HB0 Q1 Q2 B0 hq H
  go_loopw [3, 4, 5] (fun v i _ wr => ∃ k : Nat, i = .int .i64 k ∧ k ≤ fs.length ∧ k ≤ 8 ∧ Hid (wr.ownsRow w0.heap.size 65 3 v k (fewCells fs k)) ∧ Below w0.heap.size w0 wr) (fun _ i _ _ => 8 - (intOf i).toNat)
  case atStart => exact ⟨0, rfl, Nat.zero_le _, by omega, Lib.hid (World.ownsRow_nil _ _ _ _), Below.refl _ _⟩
  case round =>
    obtain ⟨k, rfl, hk, hk8, Hown, hbr⟩ := hrel
    have q2 : wr.cell? ⟨q, 2, none⟩ = some (.slice ad fs.length cap) := (HQ1'.out.below hbr).cell 2
    by_cases hlt : k < fs.length ∧ k < 8
    · obtain ⟨hlt1, hlt2⟩ := hlt
      obtain ⟨b, off, rfl, hb, c0, c1, c2⟩ := (HT0.out.below hbr).get k hlt1
      have hsn := Lib.hid (fewCells_snoc fs k hlt1)
      have hsz := hbr.size
      by_cases hd : 2000 < fs[k].data.size
      · have hsn2 := Lib.hid (show fewCells fs (k + 1) = fewCells fs k ++ [.string fs[k].path, .int .i64 fs[k].mode, .string (fs[k].data.extract 0 2000)] by
          rw [hsn.out]; unfold fewF; rw [if_pos hd]; rfl)
        generalize fs[k].path = p at c0 hsn2
        generalize fs[k].mode = m at c1 hsn2
        generalize fs[k].data = d at c2 hsn2 hd
        have hown := ownsRow_below Hown.out ((Below.refl wr.heap.size wr).alloc (Nat.le_refl _) (.cells #[.string p, .int .i64 m, .string (d.extract 0 2000)] 65))
        have hbA := hbr.alloc hbr.size (.cells #[.string p, .int .i64 m, .string (d.extract 0 2000)] 65)
        clear hsn
        go_wp2_with (at_builtin; refine append_at rfl _ _ 31 rfl w0.heap.size 65 3 40 Tryz.underlying31 _ info_file rfl (by decide) _ _ _ rfl hown _ ?c0 [.string p, .int .i64 m, .string (d.extract 0 2000)] rfl rfl (by simp [Value.oneCell']) ?c1 ?c2 ?c3 ?_)
        case c0 => simp
        case c1 => unfold maxLen; omega
        case c2 => omega
        case c3 => simp; omega
        intro v' w3 hown3 hb3
        have Hown3 := Lib.hid (show w3.ownsRow w0.heap.size 65 3 v' (k + 1) (fewCells fs (k + 1)) by rw [hsn2.out]; exact hown3)
        clear hown3 hown
        go_wp2_with fail
        go_roundw
        case rel => exact ⟨k + 1, by go_num, by omega, by omega, Hown3, hbA.trans hb3⟩
        case measure => simp [intOf]; omega
      · have hsn2 := Lib.hid (show fewCells fs (k + 1) = fewCells fs k ++ [.string fs[k].path, .int .i64 fs[k].mode, .string fs[k].data] by
          rw [hsn.out]; unfold fewF; rw [if_neg hd]; rfl)
        generalize fs[k].path = p at c0 hsn2
        generalize fs[k].mode = m at c1 hsn2
        generalize fs[k].data = d at c2 hsn2 hd
        have hown := ownsRow_below Hown.out ((Below.refl wr.heap.size wr).alloc (Nat.le_refl _) (.cells #[.string p, .int .i64 m, .string d] 65))
        have hbA := hbr.alloc hbr.size (.cells #[.string p, .int .i64 m, .string d] 65)
        clear hsn
        go_wp2_with (at_builtin; refine append_at rfl _ _ 31 rfl w0.heap.size 65 3 40 Tryz.underlying31 _ info_file rfl (by decide) _ _ _ rfl hown _ ?c0 [.string p, .int .i64 m, .string d] rfl rfl (by simp [Value.oneCell']) ?c1 ?c2 ?c3 ?_)
        case c0 => simp
        case c1 => unfold maxLen; omega
        case c2 => omega
        case c3 => simp; omega
        intro v' w3 hown3 hb3
        have Hown3 := Lib.hid (show w3.ownsRow w0.heap.size 65 3 v' (k + 1) (fewCells fs (k + 1)) by rw [hsn2.out]; exact hown3)
        clear hown3 hown
        go_wp2_with fail
        go_roundw
        case rel => exact ⟨k + 1, by go_num, by omega, by omega, Hown3, hbA.trans hb3⟩
        case measure => simp [intOf]; omega
    · have hmin : k = min fs.length 8 := by omega
      have hown := Hown.out
      rw [hmin, fewCells_8, ← fewL_len] at hown
      obtain ⟨x, y, hv⟩ := row_shape hown
      subst hv
      have Hown2 := Lib.hid hown
      have c0 : wr.cell? ⟨q, 0, none⟩ = some (.int .i64 kind) := (HQ1'.out.below hbr).cell 0
      have c1 : wr.cell? ⟨q, 1, none⟩ = some (.int .i64 gen) := (HQ1'.out.below hbr).cell 1
      have d0 : wr.cell? ⟨q + 1, 0, none⟩ = some (.int .i64 0) := (HQ2'.out.below hbr).cell 0
      have d1 : wr.cell? ⟨q + 1, 1, none⟩ = some (.int .i64 0) := (HQ2'.out.below hbr).cell 1
      have d2 : wr.cell? ⟨q + 1, 2, none⟩ = some (.slice none 0 0) := (HQ2'.out.below hbr).cell 2
      have fq : wr.frozen? ⟨q, 2, none⟩ = false := (HQ1'.out.below hbr).free 2
      have f0 : wr.frozen? ⟨q + 1, 0, none⟩ = false := (HQ2'.out.below hbr).free 0
      have f1 : wr.frozen? ⟨q + 1, 1, none⟩ = false := (HQ2'.out.below hbr).free 1
      have f2 : wr.frozen? ⟨q + 1, 2, none⟩ = false := (HQ2'.out.below hbr).free 2
      clear Hown hown hmin hk hk8
      have hbw : Below w.heap.size w wr := HB0'.out.trans (hbr.mono HB0'.out.size)
      have hbf : Below w.heap.size w ((((wr.setCell ⟨q, 2, none⟩ (.slice x (fewL fs).length y)).setCell ⟨q + 1, 0, none⟩ (.int .i64 kind)).setCell ⟨q + 1, 1, none⟩ (.int .i64 gen)).setCell ⟨q + 1, 2, none⟩ (.slice x (fewL fs).length y)) := by
        have e := Hq.out
        exact (((hbw.setCell (p := ⟨q, 2, none⟩) (by simp; omega) _).setCell (p := ⟨q + 1, 0, none⟩) (by simp; omega) _).setCell (p := ⟨q + 1, 1, none⟩) (by simp; omega) _).setCell (p := ⟨q + 1, 2, none⟩) (by simp; omega) _
      have hql : q + 1 < w0.heap.size := HQ2'.out.lt
      have hTo : Touch (fun k => k = q ∨ k = q + 1) wr ((((wr.setCell ⟨q, 2, none⟩ (.slice x (fewL fs).length y)).setCell ⟨q + 1, 0, none⟩ (.int .i64 kind)).setCell ⟨q + 1, 1, none⟩ (.int .i64 gen)).setCell ⟨q + 1, 2, none⟩ (.slice x (fewL fs).length y)) :=
        ((((Touch.refl _ wr).set (p := ⟨q, 2, none⟩) (Or.inl (Or.inl rfl)) _).set (p := ⟨q + 1, 0, none⟩) (Or.inl (Or.inr rfl)) _).set (p := ⟨q + 1, 1, none⟩) (Or.inl (Or.inr rfl)) _).set (p := ⟨q + 1, 2, none⟩) (Or.inl (Or.inr rfl)) _
      have hrow := row_base (row_touch Hown2.out hTo (fun g hg hS => by
        have := (row_lt Hown2.out hg).1
        rcases hS with h | h <;> omega)) HB0'.out.size
      have HF := Lib.hid (And.intro hrow hbf)
      clear hrow hbf hTo hbw
      go_wp2_with fail
      all_goals
        refine bodyPost_ret (v := .agg #[.int .i64 kind, .int .i64 gen, .slice x (fewL fs).length y]) ?_ rfl ⟨x, y, rfl, HF.out.1, HF.out.2⟩
        simp [results, Tryz.results8, go_sem, d0, d1, d2]
end Go.Proofs.YtaemlplcjjbamaaGreatDoor
namespace Go.Proofs.YtaemlplcjjbamaaGreatDoor
open Go Go.RowKit
set_option linter.unusedVariables false
set_option maxRecDepth 100000 in
set_option maxHeartbeats 2000000 in
theorem refName_any (s : ByteArray) (w : World) :
    Calls Tryz.prog 100 #[.string s] w fun e w' => e = .returned (.bool (nameL s.data.toList)) ∧ w = w' := by
  by_cases h : s ≠ ⟨#[]⟩ ∧ s ≠ ⟨#[46]⟩ ∧ s ≠ ⟨#[46, 46]⟩ ∧ s.size ≤ 32
  · have hn := name_body h
    obtain ⟨h1, h2, h3, h4⟩ := h
    have q1 := emptyq_ne h1
    have q2 := lstq_ne (l := [46]) h2
    have q3 := lstq_ne (l := [46, 46]) h3
    have n1 := lst_ne (l := []) h1
    have n2 := lst_ne (l := [46]) h2
    have n3 := lst_ne (l := [46, 46]) h3
    have Hn := Lib.hid hn
    clear h1 h2 h3 hn
    go_enter Tryz.func100, Tryz.ntmps100
    go_wp2
    go_loop [3] (fun i => ∃ k : Nat, i = .int .i64 k ∧ k ≤ s.size ∧ Hid ((s.data.toList.take k).all okNB = true)) (fun i => s.size - (intOf i).toNat)
    case atStart => exact ⟨0, rfl, Nat.zero_le _, Lib.hid rfl⟩
    case round =>
      obtain ⟨k, rfl, hk, Hok⟩ := hrel
      by_cases hlt : k < s.size
      · have bx := (s[k]'hlt).toNat_lt
        by_cases hok : okNB (s[k]'hlt) = true
        · have hall := Lib.hid (okTo_step hlt Hok.out hok)
          have hok2 : 33 ≤ (s[k]'hlt).toNat ∧ (s[k]'hlt).toNat ≤ 126 := by simpa [okNB] using hok
          obtain ⟨hk1, hk2⟩ := hok2
          clear hok
          go_wp2
          go_round
          case rel => exact ⟨k + 1, by go_num, by omega, hall⟩
          case measure => simp [intOf]; omega
        · have hbad := Lib.hid (okTo_bad hlt (by simpa using hok))
          have hok2 : (s[k]'hlt).toNat < 33 ∨ (126 < (s[k]'hlt).toNat ∧ 33 ≤ (s[k]'hlt).toNat) := by
            have : ¬ (33 ≤ (s[k]'hlt).toNat ∧ (s[k]'hlt).toNat ≤ 126) := by simpa [okNB] using hok
            omega
          clear hok
          rcases hok2 with h5 | ⟨h5, h6⟩
          all_goals
            go_wp2
            go_ret
            rw [Hn.out, hbad.out]
            exact ⟨rfl, rfl⟩
      · have hall := Lib.hid (show s.data.toList.all okNB = true by
          have h := Hok.out
          rw [List.take_of_length_le (by simp; omega)] at h
          exact h)
        go_wp2
        go_ret
        rw [Hn.out, hall.out]
        exact ⟨rfl, rfl⟩
  · rw [name_head h]
    by_cases h1 : s = ⟨#[]⟩
    · subst h1
      clear h
      go_enter Tryz.func100, Tryz.ntmps100
      go_wp2
      go_ret
      exact ⟨rfl, rfl⟩
    by_cases h2 : s = ⟨#[46]⟩
    · subst h2
      clear h
      go_enter Tryz.func100, Tryz.ntmps100
      go_wp2
      go_ret
      exact ⟨rfl, rfl⟩
    by_cases h3 : s = ⟨#[46, 46]⟩
    · subst h3
      clear h
      go_enter Tryz.func100, Tryz.ntmps100
      go_wp2
      go_ret
      exact ⟨rfl, rfl⟩
    have h4 : 32 < s.size := by
      rcases Nat.lt_or_ge 32 s.size with h' | h'
      · exact h'
      · exact absurd ⟨h1, h2, h3, h'⟩ h
    have q1 := emptyq_ne h1
    have q2 := lstq_ne (l := [46]) h2
    have q3 := lstq_ne (l := [46, 46]) h3
    have n1 := lst_ne (l := []) h1
    have n2 := lst_ne (l := [46]) h2
    have n3 := lst_ne (l := [46, 46]) h3
    clear h h1 h2 h3
    go_enter Tryz.func100, Tryz.ntmps100
    go_wp2
    go_ret
    exact ⟨rfl, rfl⟩
/-- what the names are behind k bytes: those that are done, and where the next one begins -/
def NamesInv (s : ByteArray) (k f : Nat) (D : List ByteArray) : Prop :=
  (k ≤ s.size → f ≤ k ∧ (∀ j, (h : j < s.size) → f ≤ j → j < k → s[j] ≠ 47) ∧ D.map (·.data.toList) ++ pieces (s.data.toList.drop f) = pieces s.data.toList) ∧ (s.size < k → D.map (·.data.toList) = pieces s.data.toList)
theorem namesInv_start (s : ByteArray) : NamesInv s 0 0 [] := by
  refine ⟨fun _ => ⟨by omega, fun j h h1 h2 => by omega, rfl⟩, fun h => by omega⟩
theorem free_take {s : ByteArray} {k f : Nat} (hk : k ≤ s.size) (h : ∀ j, (h : j < s.size) → f ≤ j → j < k → s[j] ≠ 47) : ∀ b ∈ (s.data.toList.drop f).take (k - f), b ≠ 47 := by
  intro b hb
  obtain ⟨i, hi, rfl⟩ := List.getElem_of_mem hb
  rw [List.length_take, List.length_drop] at hi
  rw [List.getElem_take, List.getElem_drop]
  simp at hi
  exact h (f + i) (by omega) (by omega) (by omega)
theorem namesInv_more {s : ByteArray} {k f : Nat} {D : List ByteArray} (h : NamesInv s k f D) (hk : k < s.size) (hb : s[k] ≠ 47) : NamesInv s (k + 1) f D := by
  obtain ⟨h1, h2, h3⟩ := h.1 (by omega)
  refine ⟨fun _ => ⟨by omega, fun j hj hf hl => ?_, h3⟩, fun hh => by omega⟩
  by_cases e : j = k
  · subst e; exact hb
  · exact h2 j hj hf (by omega)
theorem namesInv_cut {s : ByteArray} {k f : Nat} {D : List ByteArray} (h : NamesInv s k f D) (hk : k < s.size) (hb : s[k] = 47) : NamesInv s (k + 1) (k + 1) (D ++ [s.extract f k]) := by
  obtain ⟨h1, h2, h3⟩ := h.1 (by omega)
  refine ⟨fun _ => ⟨by omega, fun j hj hf hl => by omega, ?_⟩, fun hh => by omega⟩
  rw [← h3, List.map_append, List.append_assoc]
  congr 1
  have e : s.data.toList.drop f = (s.data.toList.drop f).take (k - f) ++ 47 :: s.data.toList.drop (k + 1) := by
    conv => lhs; rw [← List.take_append_drop (k - f) (s.data.toList.drop f)]
    rw [List.drop_drop, show f + (k - f) = k by omega, drop_cons s k hk, hb]
  conv => rhs; rw [e]
  rw [pieces_cut _ _ (free_take (by omega) h2)]
  show [(s.extract f k).data.toList] ++ _ = _
  rw [extract_list]
  rfl
theorem namesInv_end {s : ByteArray} {f : Nat} {D : List ByteArray} (h : NamesInv s s.size f D) : NamesInv s (s.size + 1) (s.size + 1) (D ++ [s.extract f s.size]) := by
  obtain ⟨h1, h2, h3⟩ := h.1 (Nat.le_refl _)
  refine ⟨fun hh => by omega, fun _ => ?_⟩
  rw [← h3, List.map_append]
  congr 1
  have hf := free_take (Nat.le_refl _) h2
  have e : (s.data.toList.drop f).take (s.size - f) = s.data.toList.drop f := by
    rw [List.take_of_length_le]
    simp
  rw [e] at hf
  rw [pieces_none _ hf]
  show [(s.extract f s.size).data.toList] = _
  rw [extract_list, e]
theorem info_strQ : (Tryz.prog.info? 9).map (fun i => (i.zero, i.size, i.bytes)) = some (some (.string ByteArray.empty), 1, 16) := by kernel_rfl
def strVals (D : List ByteArray) : List Value := D.map Value.string
theorem strVals_snoc (D : List ByteArray) (s : ByteArray) : strVals (D ++ [s]) = strVals D ++ [.string s] := by simp [strVals]
set_option maxRecDepth 100000 in
set_option maxHeartbeats 4000000 in
theorem refNames_any (s : ByteArray) (w : World) (hs : s.size ≤ 200) :
    Calls Tryz.prog 99 #[.string s] w fun e w' => ∃ v D, e = .returned v ∧ w'.ownsRow w.heap.size 9 1 v D.length (strVals D) ∧ D.length ≤ 201 ∧ D.map (·.data.toList) = pieces s.data.toList ∧ Below w.heap.size w w' := by
  have HS0 := Lib.hid (namesInv_start s)
  go_enter Tryz.func99, Tryz.ntmps99
  go_wp2
  go_loopw [3, 4, 5] (fun v f i wr => ∃ (k g : Nat) (D : List ByteArray), i = .int .i64 k ∧ f = .int .i64 g ∧ k ≤ s.size + 1 ∧ g ≤ k ∧ D.length ≤ k ∧ Hid (NamesInv s k g D) ∧ Hid (wr.ownsRow w.heap.size 9 1 v D.length (strVals D)) ∧ Below w.heap.size w wr) (fun _ _ i _ => s.size + 1 - (intOf i).toNat)
  case atStart => exact ⟨0, 0, [], rfl, rfl, by omega, by omega, by simp, HS0, Lib.hid (World.ownsRow_nil _ _ _ _), Below.refl _ _⟩
  case round =>
    obtain ⟨k, g, D, rfl, rfl, hk, hg, hD, HI, Hown, hbr⟩ := hrel
    have hsz := hbr.size
    by_cases hlt : k < s.size
    · have bx := (s[k]'hlt).toNat_lt
      have hke : (((k : Nat) : Int) == (s.size : Int)) = false := beq_eq_false_iff_ne.2 (by omega)
      by_cases h47 : (s[k]'hlt) = 47
      · have e2 : (((s[k]'hlt).toNat : Int) == 47) = true := by rw [h47]; rfl
        have hI := Lib.hid (namesInv_cut HI.out hlt h47)
        have hown := Hown.out
        clear h47
        go_wp2_with (at_builtin; refine append_at rfl _ _ 49 rfl w.heap.size 9 1 16 Tryz.underlying49 _ info_strQ rfl (by decide) _ _ _ rfl hown _ rfl [.string (s.extract g k)] rfl rfl (by simp [Value.oneCell']) ?c1 ?c2 ?c3 ?_)
        case c1 => unfold maxLen; omega
        case c2 => omega
        case c3 => exact hsz
        intro v' w3 hown3 hb3
        have Hown3 := Lib.hid (show w3.ownsRow w.heap.size 9 1 v' (D ++ [s.extract g k]).length (strVals (D ++ [s.extract g k])) by rw [strVals_snoc, List.length_append]; exact hown3)
        have hDl : (D ++ [s.extract g k]).length ≤ k + 1 := by rw [List.length_append]; simp; omega
        clear hown3 hown
        go_wp2
        go_roundw
        case rel => exact ⟨k + 1, k + 1, _, by go_num, by go_num, by omega, by omega, hDl, hI, Hown3, hbr.trans hb3⟩
        case measure => simp [intOf]; omega
      · have e2 : (((s[k]'hlt).toNat : Int) == 47) = false := beq_eq_false_iff_ne.2 (fun e => toNat_ne h47 e)
        have hI := Lib.hid (namesInv_more HI.out hlt h47)
        clear h47
        go_wp2
        go_roundw
        case rel => exact ⟨k + 1, g, D, by go_num, rfl, by omega, by omega, by omega, hI, Hown, hbr⟩
        case measure => simp [intOf]; omega
    · by_cases hke : k = s.size
      · have hkb : (((k : Nat) : Int) == (s.size : Int)) = true := by rw [hke]; simp
        have hI := Lib.hid (show NamesInv s (k + 1) (k + 1) (D ++ [s.extract g k]) by rw [hke]; rw [hke] at HI; exact namesInv_end HI.out)
        have hown := Hown.out
        have hks : k ≤ s.size := by omega
        clear hke
        go_wp2_with (at_builtin; refine append_at rfl _ _ 49 rfl w.heap.size 9 1 16 Tryz.underlying49 _ info_strQ rfl (by decide) _ _ _ rfl hown _ rfl [.string (s.extract g k)] rfl rfl (by simp [Value.oneCell']) ?c1 ?c2 ?c3 ?_)
        case c1 => unfold maxLen; omega
        case c2 => omega
        case c3 => exact hsz
        intro v' w3 hown3 hb3
        have Hown3 := Lib.hid (show w3.ownsRow w.heap.size 9 1 v' (D ++ [s.extract g k]).length (strVals (D ++ [s.extract g k])) by rw [strVals_snoc, List.length_append]; exact hown3)
        have hDl : (D ++ [s.extract g k]).length ≤ k + 1 := by rw [List.length_append]; simp; omega
        clear hown3 hown
        go_wp2
        go_roundw
        case rel => exact ⟨k + 1, k + 1, _, by go_num, by go_num, by omega, by omega, hDl, hI, Hown3, hbr.trans hb3⟩
        case measure => simp [intOf]; omega
      · have hp := Lib.hid (HI.out.2 (by omega))
        go_wp2
        go_ret
        exact ⟨_, D, rfl, Hown.out, by omega, hp.out, hbr⟩
set_option maxRecDepth 100000 in
set_option maxHeartbeats 2000000 in
theorem refPath_any (s : ByteArray) (w : World) (hs : s.size ≤ 9223372036854775807) :
    Calls Tryz.prog 71 #[.string s] w fun e w' => e = .returned (.int .i64 (pathE s)) ∧ Below w.heap.size w w' := by
  by_cases h2 : 200 < s.size
  · have hE := Lib.hid (show pathE s = 4 by unfold pathE; rw [if_pos h2])
    go_enter Tryz.func71, Tryz.ntmps71
    go_wp2_with fail
    go_ret
    exact ⟨ret_int hE.out.symm, Below.refl _ _⟩
  · have hE := Lib.hid (show pathE s = if (pieces s.data.toList).all nameL = true then 0 else 10 by unfold pathE; rw [if_neg h2])
    have HN := Lib.hid (refNames_any s w (by omega))
    go_enter Tryz.func71, Tryz.ntmps71
    go_wp2_with fail
    refine HN.out.mono ?_
    rintro e w1 ⟨v, ps, rfl, hown, hlen, hpc, hb1⟩
    obtain ⟨na, nc, hv, hat⟩ := readsStrs_own (ss := ps) hown
    subst hv
    have Hat := Lib.hid hat
    have Hpc := Lib.hid hpc
    have HB1 := Lib.hid hb1
    have HSZ := Lib.hid hb1.size
    clear hown hpc hat hb1 HN
    go_wp2_with fail
    go_loopw [4] (fun i wr => ∃ k : Nat, i = .int .i64 k ∧ k ≤ ps.length ∧ Hid (((ps.map (·.data.toList)).take k).all nameL = true) ∧ wr = w1) (fun i _ => ps.length - (intOf i).toNat)
    case atStart => exact ⟨0, rfl, Nat.zero_le _, Lib.hid rfl, rfl⟩
    case round =>
      obtain ⟨k, rfl, hk, Hok, rfl⟩ := hrel
      by_cases hkp : k < ps.length
      · obtain ⟨b, off, rfl, hb, hcc⟩ := Hat.out.resolve_left (by intro h; rw [h] at hkp; simp at hkp)
        have hc := hcc k hkp
        have hm : (ps.map (·.data.toList))[k]'(by simpa using hkp) = ps[k].data.toList := by simp
        have hml : k < (ps.map (·.data.toList)).length := by simpa using hkp
        have HN := Lib.hid (refName_any ps[k] wr)
        cases hb : nameL ps[k].data.toList with
        | true =>
          have hall := Lib.hid (all_take hml Hok.out (by rw [hm]; exact hb))
          rw [hb] at HN
          generalize ps[k] = pk at hc HN
          clear hb hm hcc
          go_wp2_with fail
          refine HN.out.mono ?_
          rintro e w2 ⟨rfl, rfl⟩
          go_wp2_with fail
          go_roundw
          case rel => exact ⟨k + 1, by go_num, by omega, hall, trivial⟩
          case measure => simp [intOf]; omega
        | false =>
          have hall := Lib.hid (all_bad hml (by rw [hm]; exact hb))
          rw [hb] at HN
          generalize ps[k] = pk at hc HN
          clear hb hm hcc
          go_wp2_with fail
          refine HN.out.mono ?_
          rintro e w2 ⟨rfl, rfl⟩
          go_wp2_with fail
          go_ret
          rw [Hpc.out] at hall
          have hf := hE.out
          rw [if_neg hall.out] at hf
          exact ⟨ret_int hf.symm, HB1.out⟩
      · go_wp2_with fail
        go_ret
        have hf := hE.out
        have hall := Hok.out
        rw [List.take_of_length_le (by simp; omega), Hpc.out] at hall
        rw [if_pos hall] at hf
        exact ⟨ret_int hf.symm, HB1.out⟩
theorem ordR_cons (x y : UInt8) (a b : List UInt8) : ordR (x :: a) (y :: b) = if keyB x < keyB y then -1 else if keyB y < keyB x then 1 else ordR a b := by
  conv => lhs; unfold ordR
theorem ordR_lt (a b : List UInt8) (ha : a = []) (hb : 0 < b.length) : ordR a b = -1 := by
  subst ha
  cases b with
  | nil => simp at hb
  | cons x b => rfl
theorem ordR_gt (a b : List UInt8) (hb : b = []) (ha : 0 < a.length) : ordR a b = 1 := by
  subst hb
  cases a with
  | nil => simp at ha
  | cons x a => rfl
theorem ordR_nil (a b : List UInt8) (ha : a = []) (hb : b = []) : ordR a b = 0 := by subst ha; subst hb; rfl
theorem key_at (s : ByteArray) (k : Nat) (h : k < s.size) : (((s[k]'h).toNat : Int) == 47) = true ∧ keyB (s[k]'h) = 0 ∨ (((s[k]'h).toNat : Int) == 47) = false ∧ keyB (s[k]'h) = ((s[k]'h).toNat : Int) + 1 := by
  by_cases h47 : (s[k]'h) = 47
  · exact Or.inl ⟨by rw [h47]; rfl, by unfold keyB; rw [if_pos h47]⟩
  · exact Or.inr ⟨beq_eq_false_iff_ne.2 (fun e => toNat_ne h47 e), by unfold keyB; rw [if_neg h47]⟩
set_option maxRecDepth 100000 in
set_option maxHeartbeats 4000000 in
theorem refOrder_any (a b : ByteArray) (w : World) (ha : a.size ≤ 9223372036854775807) (hb : b.size ≤ 9223372036854775807) :
    Calls Tryz.prog 72 #[.string a, .string b] w fun e w' => e = .returned (.int .i64 (ordR a.data.toList b.data.toList)) ∧ w = w' := by
  go_enter Tryz.func72, Tryz.ntmps72
  go_wp2
  go_loop [5, 6, 7] (fun i _ _ => ∃ k : Nat, i = .int .i64 k ∧ (k ≤ a.size ∨ k ≤ b.size) ∧ Hid (ordR a.data.toList b.data.toList = ordR (a.data.toList.drop k) (b.data.toList.drop k))) (fun i _ _ => max a.size b.size - (intOf i).toNat)
  case atStart => exact ⟨0, rfl, Or.inl (Nat.zero_le _), Lib.hid rfl⟩
  case round =>
    obtain ⟨k, rfl, hk, Hz⟩ := hrel
    have dnil : ∀ (s : ByteArray), ¬ k < s.size → s.data.toList.drop k = [] := fun s h => List.drop_of_length_le (by simp; omega)
    have dlen : ∀ (s : ByteArray), k < s.size → 0 < (s.data.toList.drop k).length := fun s h => by simp; omega
    by_cases hka : k < a.size
    · have ka : (k : Int) < (a.size : Int) := by omega
      have ba := (a[k]'hka).toNat_lt
      by_cases hkb : k < b.size
      · have kb : (k : Int) < (b.size : Int) := by omega
        have bb := (b[k]'hkb).toNat_lt
        have hz := Lib.hid (show ordR a.data.toList b.data.toList = _ by rw [Hz.out, drop_cons a k hka, drop_cons b k hkb, ordR_cons])
        rcases key_at a k hka with ⟨ea, qa⟩ | ⟨ea, qa⟩
        · rcases key_at b k hkb with ⟨eb, qb⟩ | ⟨eb, qb⟩
          · rw [qa, qb] at hz
            clear qa qb dnil dlen Hz
            rcases Int.lt_trichotomy ((0 : Int)) ((0 : Int)) with h | h | h
            · first
              | (exfalso; omega)
              | (have hz2 := Lib.hid (hz.out.trans (if_pos h))
                 clear hz
                 go_wp2
                 go_ret
                 exact ⟨ret_int hz2.out.symm, rfl⟩)
            · have h1 : ¬ ((0 : Int)) < ((0 : Int)) := by omega
              have h2 : ¬ ((0 : Int)) < ((0 : Int)) := by omega
              first
              | (exfalso; omega)
              | (have hz2 := Lib.hid ((hz.out.trans (if_neg h1)).trans (if_neg h2))
                 clear hz
                 go_wp2
                 go_round
                 case rel => exact ⟨k + 1, by go_num, by omega, hz2⟩
                 case measure => simp [intOf]; omega)
            · have h1 : ¬ ((0 : Int)) < ((0 : Int)) := by omega
              first
              | (exfalso; omega)
              | (have hz2 := Lib.hid ((hz.out.trans (if_neg h1)).trans (if_pos h))
                 clear hz
                 go_wp2
                 go_ret
                 exact ⟨ret_int hz2.out.symm, rfl⟩)
          · rw [qa, qb] at hz
            clear qa qb dnil dlen Hz
            rcases Int.lt_trichotomy ((0 : Int)) (((b[k]'hkb).toNat : Int) + 1) with h | h | h
            · first
              | (exfalso; omega)
              | (have hz2 := Lib.hid (hz.out.trans (if_pos h))
                 clear hz
                 go_wp2
                 go_ret
                 exact ⟨ret_int hz2.out.symm, rfl⟩)
            · have h1 : ¬ ((0 : Int)) < (((b[k]'hkb).toNat : Int) + 1) := by omega
              have h2 : ¬ (((b[k]'hkb).toNat : Int) + 1) < ((0 : Int)) := by omega
              first
              | (exfalso; omega)
              | (have hz2 := Lib.hid ((hz.out.trans (if_neg h1)).trans (if_neg h2))
                 clear hz
                 go_wp2
                 go_round
                 case rel => exact ⟨k + 1, by go_num, by omega, hz2⟩
                 case measure => simp [intOf]; omega)
            · have h1 : ¬ ((0 : Int)) < (((b[k]'hkb).toNat : Int) + 1) := by omega
              first
              | (exfalso; omega)
              | (have hz2 := Lib.hid ((hz.out.trans (if_neg h1)).trans (if_pos h))
                 clear hz
                 go_wp2
                 go_ret
                 exact ⟨ret_int hz2.out.symm, rfl⟩)
        · rcases key_at b k hkb with ⟨eb, qb⟩ | ⟨eb, qb⟩
          · rw [qa, qb] at hz
            clear qa qb dnil dlen Hz
            rcases Int.lt_trichotomy (((a[k]'hka).toNat : Int) + 1) ((0 : Int)) with h | h | h
            · first
              | (exfalso; omega)
              | (have hz2 := Lib.hid (hz.out.trans (if_pos h))
                 clear hz
                 go_wp2
                 go_ret
                 exact ⟨ret_int hz2.out.symm, rfl⟩)
            · have h1 : ¬ (((a[k]'hka).toNat : Int) + 1) < ((0 : Int)) := by omega
              have h2 : ¬ ((0 : Int)) < (((a[k]'hka).toNat : Int) + 1) := by omega
              first
              | (exfalso; omega)
              | (have hz2 := Lib.hid ((hz.out.trans (if_neg h1)).trans (if_neg h2))
                 clear hz
                 go_wp2
                 go_round
                 case rel => exact ⟨k + 1, by go_num, by omega, hz2⟩
                 case measure => simp [intOf]; omega)
            · have h1 : ¬ (((a[k]'hka).toNat : Int) + 1) < ((0 : Int)) := by omega
              first
              | (exfalso; omega)
              | (have hz2 := Lib.hid ((hz.out.trans (if_neg h1)).trans (if_pos h))
                 clear hz
                 go_wp2
                 go_ret
                 exact ⟨ret_int hz2.out.symm, rfl⟩)
          · rw [qa, qb] at hz
            clear qa qb dnil dlen Hz
            rcases Int.lt_trichotomy (((a[k]'hka).toNat : Int) + 1) (((b[k]'hkb).toNat : Int) + 1) with h | h | h
            · first
              | (exfalso; omega)
              | (have hz2 := Lib.hid (hz.out.trans (if_pos h))
                 clear hz
                 go_wp2
                 go_ret
                 exact ⟨ret_int hz2.out.symm, rfl⟩)
            · have h1 : ¬ (((a[k]'hka).toNat : Int) + 1) < (((b[k]'hkb).toNat : Int) + 1) := by omega
              have h2 : ¬ (((b[k]'hkb).toNat : Int) + 1) < (((a[k]'hka).toNat : Int) + 1) := by omega
              first
              | (exfalso; omega)
              | (have hz2 := Lib.hid ((hz.out.trans (if_neg h1)).trans (if_neg h2))
                 clear hz
                 go_wp2
                 go_round
                 case rel => exact ⟨k + 1, by go_num, by omega, hz2⟩
                 case measure => simp [intOf]; omega)
            · have h1 : ¬ (((a[k]'hka).toNat : Int) + 1) < (((b[k]'hkb).toNat : Int) + 1) := by omega
              first
              | (exfalso; omega)
              | (have hz2 := Lib.hid ((hz.out.trans (if_neg h1)).trans (if_pos h))
                 clear hz
                 go_wp2
                 go_ret
                 exact ⟨ret_int hz2.out.symm, rfl⟩)
      · have hz := Lib.hid (Hz.out.trans (ordR_gt _ _ (dnil b hkb) (dlen a hka)))
        clear dnil dlen
        rcases key_at a k hka with ⟨ea, qa⟩ | ⟨ea, qa⟩
        all_goals
          clear qa
          go_wp2
          go_ret
          exact ⟨ret_int hz.out.symm, rfl⟩
    · by_cases hkb : k < b.size
      · have kb : (k : Int) < (b.size : Int) := by omega
        have bb := (b[k]'hkb).toNat_lt
        have hz := Lib.hid (Hz.out.trans (ordR_lt _ _ (dnil a hka) (dlen b hkb)))
        clear dnil dlen
        rcases key_at b k hkb with ⟨eb, qb⟩ | ⟨eb, qb⟩
        all_goals
          clear qb
          go_wp2
          go_ret
          exact ⟨ret_int hz.out.symm, rfl⟩
      · have hz := Lib.hid (Hz.out.trans (ordR_nil _ _ (dnil a hka) (dnil b hkb)))
        clear dnil dlen
        go_wp2
        go_ret
        exact ⟨ret_int hz.out.symm, rfl⟩
end Go.Proofs.YtaemlplcjjbamaaGreatDoor
