/- The walks of strings.Split at a slash, and of tree's Path, Within, paths, mode, Check. Conditions: sizes. The walk of tree.Check. Conditions: at most 1000 files; texts of at most 2^62 bytes. -/
import Derived.Test.YtaemlplcjjbamaaGreatDoorBClone
import Derived.Lib.SplitLaws
namespace Go.Proofs.YtaemlplcjjbamaaGreatDoor
open Go Go.RowKit
set_option linter.unusedVariables false
theorem extract_list (s : ByteArray) (f k : Nat) : (s.extract f k).data.toList = (s.data.toList.drop f).take (k - f) := by
  simp [ByteArray.data_extract, Array.toList_extract]
theorem ba_ext {a b : ByteArray} (h : a.data.toList = b.data.toList) : a = b := by
  cases a; cases b
  simp at h
  rw [h]
theorem countB_one (s : ByteArray) : Lib.countB s ⟨#[47]⟩ = Lib.countByte s.data.toList 47 := Lib.count_one 47 s.data.toList
set_option maxHeartbeats 1000000 in
theorem split_any (s : ByteArray) (w : World) (hs : s.size < 4294967281) :
    Calls Tryz.prog 137 #[.string s, .string ⟨#[47]⟩] w fun e w' =>
      e = .returned (.slice (some ⟨w.heap.size, 0, none⟩) (Lib.countB s ⟨#[47]⟩ + 1) (Lib.countB s ⟨#[47]⟩ + 1)) ∧ w' = w.alloc (.cells ((Lib.splitB ⟨#[47]⟩ 0 (Lib.countB s ⟨#[47]⟩) s).map Value.string).toArray 9) := by
  have h1 : 1 ≤ (⟨#[47]⟩ : ByteArray).size := by decide
  have hle := Lib.countB_le ⟨#[47]⟩ h1 s.size s (Nat.le_refl _)
  have hlen := Lib.splitB_all ⟨#[47]⟩ h1 0 _ s rfl
  have hC : Calls Tryz.prog 188 #[.string s, .string ⟨#[47]⟩] w fun e w' => e = .returned (.int .i64 (Lib.countB s ⟨#[47]⟩)) ∧ w' = w := by
    rw [countB_one]
    exact Tryz.strings_Count_one s 47 w
  have hI : ∀ (x : ByteArray) (c : Array Value), x.size ≤ s.size → Calls Tryz.prog 189 #[.string x, .string ⟨#[47]⟩] (w.alloc (.cells c 9)) fun e w' => e = .returned (.int .i64 (Lib.indexB x ⟨#[47]⟩)) ∧ w' = w.alloc (.cells c 9) := fun x c _ => by
    have e : Lib.indexB x ⟨#[47]⟩ = Lib.indexByte x.data.toList 47 := Lib.index_one x.data.toList 47
    rw [e]
    exact Tryz.strings_Index_one x 47 _
  have c := Any.strings_genSplit_core Tryz.lays221 (by kernel_rfl) s ⟨#[47]⟩ 0 (-1) (Lib.countB s ⟨#[47]⟩ + 1) w hs h1 (Nat.zero_le _) hI hC (by decide) (by decide) (by rw [if_pos (by decide)]; omega)
  rw [Nat.add_sub_cancel, hlen] at c
  have e2 : Lib.cellsOf (Lib.splitB ⟨#[47]⟩ 0 (Lib.countB s ⟨#[47]⟩) s) (Lib.countB s ⟨#[47]⟩ + 1) = ((Lib.splitB ⟨#[47]⟩ 0 (Lib.countB s ⟨#[47]⟩) s).map Value.string).toArray := by rw [← hlen]; exact Lib.cellsOf_full _
  rw [e2] at c
  have HC := Lib.hid c
  clear c hC hI e2 hlen hle h1
  go_enter Tryz.func137, Tryz.ntmps137
  go_wp2_with fail
  refine HC.out.mono ?_
  rintro e w' ⟨rfl, hw⟩
  rw [hw]
  go_wp2_with fail
  go_ret
  exact ⟨rfl, rfl⟩
theorem all_take {l : List (List UInt8)} {k : Nat} (hk : k < l.length) (h : (l.take k).all nameL = true) (hb : nameL l[k] = true) : (l.take (k + 1)).all nameL = true := by
  rw [List.take_succ_eq_append_getElem hk, List.all_append, h]
  simpa using hb
theorem all_bad {l : List (List UInt8)} {k : Nat} (hk : k < l.length) (hb : nameL l[k] = false) : ¬ l.all nameL = true := by
  intro h
  have := List.all_eq_true.1 h _ (List.getElem_mem hk)
  rw [hb] at this; cases this
set_option maxRecDepth 100000 in
set_option maxHeartbeats 2000000 in
theorem path_any (s : ByteArray) (w : World) (hs : s.size ≤ 9223372036854775807) :
    Calls Tryz.prog 117 #[.string s] w fun e w' => e = .returned (.int .i64 (pathE s)) ∧ Below w.heap.size w w' := by
  by_cases h2 : 200 < s.size
  · have hE := Lib.hid (show pathE s = 4 by unfold pathE; rw [if_pos h2])
    go_enter Tryz.func117, Tryz.ntmps117
    go_wp2_with fail
    go_ret
    exact ⟨ret_int hE.out.symm, Below.refl _ _⟩
  · have hE := Lib.hid (show pathE s = if (pieces s.data.toList).all nameL = true then 0 else 10 by unfold pathE; rw [if_neg h2])
    have hsp := split_any s w (by omega)
    have hle := Lib.countB_le ⟨#[47]⟩ (by decide) s.size s (Nat.le_refl _)
    have hlen := Lib.splitB_all ⟨#[47]⟩ (by decide) 0 _ s rfl
    have hpc := split_pieces s
    generalize Lib.countB s ⟨#[47]⟩ = n at hsp hle hlen hpc
    generalize Lib.splitB ⟨#[47]⟩ 0 n s = ps at hsp hlen hpc
    have HSP := Lib.hid hsp
    have Hpc := Lib.hid hpc
    clear hsp hpc
    go_enter Tryz.func117, Tryz.ntmps117
    go_wp2_with fail
    refine HSP.out.mono ?_
    rintro e w1 ⟨rfl, hw⟩
    have hbk : Blk w1 w.heap.size (ps.map Value.string) 9 := by rw [hw]; exact Blk.new w _ _
    have hb1 : Below w.heap.size w w1 := by rw [hw]; exact (Below.refl _ _).alloc (Nat.le_refl _) _
    have HB1 := Lib.hid hb1
    have HSZ := Lib.hid hb1.size
    have Hbk := Lib.hid hbk
    generalize w.heap.size = g at Hbk ⊢
    clear hw HSP hbk hb1
    go_wp2_with fail
    go_loopw [4, 11] (fun _ i wr => ∃ k : Nat, i = .int .i64 k ∧ k ≤ n + 1 ∧ Hid (((ps.map (·.data.toList)).take k).all nameL = true) ∧ Below w1.heap.size w1 wr) (fun _ i _ => n + 1 - (intOf i).toNat)
    case atStart => exact ⟨0, rfl, Nat.zero_le _, Lib.hid rfl, Below.refl _ _⟩
    case round =>
      obtain ⟨k, rfl, hk, Hok, hbr⟩ := hrel
      have hgl := Hbk.out.lt
      by_cases hlt : k < n + 1
      · have hkp : k < ps.length := by omega
        have hc : wr.cell? ⟨g, k, none⟩ = some (.string ps[k]) := by
          rw [hbr.cell (p := ⟨g, k, none⟩) hgl, Hbk.out.cell k]
          simp [hkp]
        have hm : (ps.map (·.data.toList))[k]'(by simpa using hkp) = ps[k].data.toList := by simp
        have hml : k < (ps.map (·.data.toList)).length := by simpa using hkp
        have HN := Lib.hid (name_any ps[k] wr)
        cases hb : nameL ps[k].data.toList with
        | true =>
          have hall := Lib.hid (all_take hml Hok.out (by rw [hm]; exact hb))
          rw [hb] at HN
          generalize ps[k] = pk at hc HN
          clear hb hm
          go_wp2_with fail
          refine HN.out.mono ?_
          rintro e w2 ⟨rfl, hb2⟩
          have hbr2 := below_step hbr hb2
          go_wp2_with fail
          go_roundw
          case rel => exact ⟨k + 1, by go_num, by omega, hall, hbr2⟩
          case measure => simp [intOf]; omega
        | false =>
          have hall := Lib.hid (all_bad hml (by rw [hm]; exact hb))
          rw [hb] at HN
          generalize ps[k] = pk at hc HN
          clear hb hm
          go_wp2_with fail
          refine HN.out.mono ?_
          rintro e w2 ⟨rfl, hb2⟩
          have hbr2 := below_step hbr hb2
          go_wp2_with fail
          go_ret
          rw [Hpc.out] at hall
          have hf := hE.out
          rw [if_neg hall.out] at hf
          exact ⟨ret_int hf.symm, HB1.out.trans (hbr2.mono HSZ.out)⟩
      · go_wp2_with fail
        go_ret
        have hf := hE.out
        have hall := Hok.out
        rw [List.take_of_length_le (by simp; omega), Hpc.out] at hall
        rw [if_pos hall] at hf
        exact ⟨ret_int hf.symm, HB1.out.trans (hbr.mono HSZ.out)⟩
theorem prefix_iff (s p : ByteArray) : withinB s p = (decide (p.size < s.size) && decide (s.extract 0 p.size = p) && decide (∃ h : p.size < s.size, s[p.size] = 47)) := by
  rw [Bool.eq_iff_iff]
  simp only [withinB, Bool.and_eq_true, decide_eq_true_eq]
  constructor
  · rintro ⟨t, ht⟩
    have hl := congrArg List.length ht
    simp at hl
    have hlt : p.size < s.size := by omega
    have hx : (s.extract 0 p.size).data.toList = p.data.toList := by
      rw [extract_list, List.drop_zero, Nat.sub_zero, ← ht, List.append_assoc, List.take_left' (by simp)]
    refine ⟨⟨hlt, ?_⟩, hlt, ?_⟩
    · exact ba_ext hx
    · have h2 : s.data.toList[p.size]? = some 47 := by
        rw [← ht, List.append_assoc, List.getElem?_append_right (by simp)]
        simp
      rw [List.getElem?_eq_getElem (by simpa using hlt)] at h2
      injection h2 with h2
  · rintro ⟨⟨hlt, hx⟩, _, hb⟩
    have hx2 : (s.extract 0 p.size).data.toList = p.data.toList := by rw [hx]
    rw [extract_list, List.drop_zero, Nat.sub_zero] at hx2
    refine ⟨s.data.toList.drop (p.size + 1), ?_⟩
    rw [← hx2]
    conv => rhs; rw [← List.take_append_drop p.size s.data.toList, drop_cons s p.size hlt, hb]
    simp
set_option maxRecDepth 100000 in
theorem within_any (s p : ByteArray) (w : World) (hs : s.size ≤ 9223372036854775807) (hp : p.size ≤ 9223372036854775807) :
    Calls Tryz.prog 119 #[.string s, .string p] w fun e w' => e = .returned (.bool (withinB s p)) ∧ w = w' := by
  have hI := prefix_iff s p
  by_cases h1 : p.size < s.size
  · have hs0 : 0 < s.size := by omega
    by_cases h2 : s.extract 0 p.size = p
    · have q2 := strq_same h2
      have hI2 := Lib.hid (show withinB s p = decide (s[p.size]'h1 = 47) by rw [hI, decide_eq_true h1, decide_eq_true h2]; simp [h1])
      clear hI h2
      go_enter Tryz.func119, Tryz.ntmps119
      go_wp2
      go_ret
      refine ⟨ret_bool ?_, rfl⟩
      rw [hI2.out, Bool.eq_iff_iff, beq_iff_eq, decide_eq_true_iff]
      constructor
      · intro h
        exact UInt8.toNat_inj.1 (by have : (47 : UInt8).toNat = 47 := rfl; omega)
      · intro h
        rw [h]; rfl
    · have q2 := strq_ne h2
      have hI2 := Lib.hid (show withinB s p = false by rw [hI, decide_eq_false h2]; simp)
      clear hI h2
      go_enter Tryz.func119, Tryz.ntmps119
      go_wp2
      go_ret
      exact ⟨ret_bool hI2.out.symm, rfl⟩
  · have hI2 := Lib.hid (show withinB s p = false by rw [hI, decide_eq_false h1]; rfl)
    clear hI
    go_enter Tryz.func119, Tryz.ntmps119
    go_wp2
    go_ret
    exact ⟨ret_bool hI2.out.symm, rfl⟩
set_option maxRecDepth 100000 in
theorem mode_any (n : Int) (w : World) :
    Calls Tryz.prog 97 #[.int .i64 n] w fun e w' => e = .returned (.bool (decide (0 ≤ n ∧ n ≤ 511))) ∧ w = w' := by
  by_cases h0 : 0 ≤ n
  · go_enter Tryz.func97, Tryz.ntmps97
    go_wp2
    go_ret
    exact ⟨ret_bool (by simp [h0]), rfl⟩
  · go_enter Tryz.func97, Tryz.ntmps97
    go_wp2
    go_ret
    exact ⟨ret_bool (by simp; omega), rfl⟩
set_option maxRecDepth 100000 in
set_option maxHeartbeats 4000000 in
theorem paths_any (ad : Option Addr) (cap : Nat) (l : List ByteArray) (w : World) (h : StrsAt w ad l) (hl : l.length ≤ 1000000) (hs : ∀ s ∈ l, s.size ≤ 9223372036854775807) :
    Calls Tryz.prog 96 #[.slice ad l.length cap] w fun e w' => e = .returned (.int .i64 (pathsE l)) ∧ Below w.heap.size w w' := by
  have H := Lib.hid h
  have Hs := Lib.hid (show ∀ k (hk : k < l.length), l[k].size ≤ 9223372036854775807 from fun k hk => hs _ (List.getElem_mem hk))
  by_cases h256 : 256 < l.length
  · have hE := Lib.hid (show pathsE l = 7 by unfold pathsE; rw [if_pos h256])
    clear h hs
    go_enter Tryz.func96, Tryz.ntmps96
    go_wp2_with fail
    go_ret
    exact ⟨ret_int hE.out.symm, Below.refl _ _⟩
  · have hE := Lib.hid (show pathsE l = pathsGo (prevOf l 0) (l.drop 0) by unfold pathsE; rw [if_neg h256]; rfl)
    clear h hs
    go_enter Tryz.func96, Tryz.ntmps96
    go_wp2_with fail
    go_loopw [3, 4, 5, 6, 12] (fun _ _ _ _ i wr => ∃ k : Nat, i = .int .i64 k ∧ k ≤ l.length ∧ Hid (pathsE l = pathsGo (prevOf l k) (l.drop k)) ∧ Below w.heap.size w wr) (fun _ _ _ _ i _ => l.length - (intOf i).toNat)
    case atStart => exact ⟨0, rfl, Nat.zero_le _, hE, Below.refl _ _⟩
    case round =>
      obtain ⟨k, rfl, hk, HE, hbr⟩ := hrel
      by_cases hlt : k < l.length
      · have hat := strsAt_below H.out hbr
        obtain ⟨b, off, rfl, hb, hc⟩ := hat.resolve_left (by intro h; rw [h] at hlt; simp at hlt)
        have hck := hc k hlt
        have HP := Lib.hid (path_any l[k] wr (Hs.out k hlt))
        by_cases hp0 : pathE l[k] = 0
        · rw [hp0] at HP
          cases k with
          | zero =>
            have hE2 := Lib.hid (HE.out.trans (paths_first hlt hp0))
            have hck : wr.cell? ⟨b, off, none⟩ = some (.string l[0]) := hc 0 hlt
            generalize l[0] = s at hck HP
            clear hp0 hc hat
            go_wp2_with fail
            refine HP.out.mono ?_
            rintro e w1 ⟨rfl, hb1⟩
            have hbr1 := below_step hbr hb1
            clear hck
            go_wp2_with fail
            go_roundw
            case rel => exact ⟨1, by go_num, by omega, hE2, hbr1⟩
            case measure => simp [intOf]; omega
          | succ k =>
            have hlt' : k < l.length := by omega
            have hE2 := Lib.hid (HE.out.trans (paths_step hlt hp0))
            have hcp := hc k hlt'
            have HO := Lib.hid (fun w1 => order_any l[k] l[k + 1] w1 (Hs.out k hlt') (Hs.out (k + 1) hlt))
            have HW := Lib.hid (fun w1 => within_any l[k + 1] l[k] w1 (Hs.out (k + 1) hlt) (Hs.out k hlt'))
            have hzero := Lib.hid (ordR_pos l[k].data.toList l[k + 1].data.toList).2
            have heq : l[k] = l[k + 1] ↔ ordZ l[k].data.toList l[k + 1].data.toList = 0 := by
              rw [hzero.out]
              exact ⟨fun h => by rw [h], fun h => ba_ext h⟩
            have hE3 := Lib.hid (show pathsE l = if 0 < ordZ l[k].data.toList l[k + 1].data.toList then 12 else if ordZ l[k].data.toList l[k + 1].data.toList = 0 ∨ withinB l[k + 1] l[k] = true then 9 else pathsGo (prevOf l (k + 2)) (l.drop (k + 2)) by
              rw [hE2.out]
              simp only [heq])
            clear hE2 hzero heq hc hat hp0
            generalize ordZ l[k].data.toList l[k + 1].data.toList = z at HO hE3
            generalize withinB l[k + 1] l[k] = wi at HW hE3
            have hcc := Lib.hid hck
            have hcq := Lib.hid hcp
            generalize hx : l[k + 1] = s at hck HP HO HW hcc
            generalize hy : l[k] = p at hcp HO HW hcq
            clear hx hy
            have e1 : ((k + 1 : Nat) : Int) - 1 = (k : Int) := by omega
            have ek : (((k + 1 : Nat) : Int) == 0) = false := beq_eq_false_iff_ne.2 (by omega)
            go_wp2_with fail
            refine HP.out.mono ?_
            rintro e w1 ⟨rfl, hb1⟩
            have hbr1 := below_step hbr hb1
            have hcs : w1.cell? ⟨b, off + (k + 1), none⟩ = some (.string s) := (hb1.cell (p := ⟨b, off + (k + 1), none⟩) hb).trans hcc.out
            have hcp1 : w1.cell? ⟨b, off + k, none⟩ = some (.string p) := (hb1.cell (p := ⟨b, off + k, none⟩) hb).trans hcq.out
            clear hck hcp
            go_wp2_with fail
            refine (HO.out w1).mono ?_
            rintro e w2' ⟨rfl, nd, hw2⟩
            have hbr2 : Below w.heap.size w w2' := by rw [hw2]; exact below_drewN hbr1 nd
            have hcp2 : w2'.cell? ⟨b, off + k, none⟩ = some (.string p) := by rw [hw2]; exact hcp1
            clear hw2 hcs hcp1 hcc hcq HP HO
            by_cases hz1 : 0 < z
            · have hE4 := Lib.hid (hE3.out.trans (if_pos hz1))
              go_wp2_with fail
              go_ret
              exact ⟨ret_int hE4.out.symm, hbr2⟩
            · by_cases hz2 : z = 0
              · have hE4 := Lib.hid ((hE3.out.trans (if_neg hz1)).trans (if_pos (Or.inl hz2)))
                have hz3 : (z == 0) = true := by rw [beq_iff_eq]; exact hz2
                clear hz2
                go_wp2_with fail
                go_ret
                exact ⟨ret_int hE4.out.symm, hbr2⟩
              · have hz3 : (z == 0) = false := beq_eq_false_iff_ne.2 hz2
                have hE4 := Lib.hid (show pathsE l = if wi = true then 9 else pathsGo (prevOf l (k + 2)) (l.drop (k + 2)) by rw [hE3.out, if_neg hz1]; simp [hz2])
                clear hz2 hE3
                go_wp2_with fail
                refine (HW.out w2').mono ?_
                rintro e w3 ⟨rfl, rfl⟩
                cases wi with
                | true =>
                  rw [if_pos rfl] at hE4
                  go_wp2_with fail
                  go_ret
                  exact ⟨ret_int hE4.out.symm, hbr2⟩
                | false =>
                  rw [if_neg (by decide)] at hE4
                  go_wp2_with fail
                  go_roundw
                  case rel => exact ⟨k + 2, by go_num, by omega, hE4, hbr2⟩
                  case measure => simp [intOf]; omega
        · have hE2 := Lib.hid (HE.out.trans (paths_bad hlt hp0))
          generalize pathE l[k] = pe at HP hE2 hp0
          generalize l[k] = s at hck HP
          have hpb : (pe != 0) = true := by rw [bne_iff_ne]; exact hp0
          clear hp0 hc hat
          go_wp2_with fail
          refine HP.out.mono ?_
          rintro e w1 ⟨rfl, hb1⟩
          have hbr1 := below_step hbr hb1
          clear hck
          go_wp2_with fail
          go_ret
          exact ⟨ret_int hE2.out.symm, hbr1⟩
      · have hE2 := Lib.hid (HE.out.trans (paths_end hlt))
        go_wp2_with fail
        go_ret
        exact ⟨ret_int hE2.out.symm, hbr⟩
end Go.Proofs.YtaemlplcjjbamaaGreatDoor
namespace Go.Proofs.YtaemlplcjjbamaaGreatDoor
open Go Go.RowKit
set_option linter.unusedVariables false
theorem info_str : (Tryz.prog.info? 9).map (fun i => (i.zero, i.size, i.bytes)) = some (some (.string ByteArray.empty), 1, 16) := by kernel_rfl
def pathCells (fs : List TFile) (k : Nat) : List Value := ((fs.take k).map TFile.path).map Value.string
theorem pathsT_snoc (fs : List TFile) (k : Nat) (h : k < fs.length) : pathCells fs (k + 1) = pathCells fs k ++ [.string fs[k].path] := by
  unfold pathCells
  rw [List.take_succ_eq_append_getElem h, List.map_append, List.map_append]
  rfl
set_option maxRecDepth 100000 in
set_option maxHeartbeats 4000000 in
theorem check_any (ad : Option Addr) (cap : Nat) (fs : List TFile) (w : World) (h : TfsAt w ad fs) (hl : fs.length ≤ 1000) (hs : ∀ f ∈ fs, f.path.size ≤ 9223372036854775807 ∧ f.data.size ≤ 9223372036854775807) :
    Calls Tryz.prog 65 #[.slice ad fs.length cap] w fun e w' => e = .returned (.int .i64 (checkE fs)) ∧ Below w.heap.size w w' := by
  have H := Lib.hid h
  have Hs := Lib.hid hs
  clear h hs
  go_enter Tryz.func65, Tryz.ntmps65
  go_wp2_with fail
  go_loopw [3, 5, 11] (fun nv _ i wr => ∃ k : Nat, i = .int .i64 k ∧ k ≤ fs.length ∧ Hid (wr.ownsRow w.heap.size 9 1 nv k (pathCells fs k)) ∧ Below w.heap.size w wr) (fun _ _ i _ => fs.length - (intOf i).toNat)
  case atStart => exact ⟨0, rfl, Nat.zero_le _, Lib.hid (World.ownsRow_nil _ _ _ _), Below.refl _ _⟩
  case round =>
    obtain ⟨k, rfl, hk, Hown, hbr⟩ := hrel
    by_cases hlt : k < fs.length
    · obtain ⟨b, off, rfl, hb, c0, c1, c2⟩ := (H.out.below hbr).get k hlt
      have hsn := Lib.hid (pathsT_snoc fs k hlt)
      have hown := Hown.out.alloc (.cells #[.string fs[k].path, .int .i64 fs[k].mode, .string fs[k].data] 65)
      have hbr1 := hbr.alloc hbr.size (.cells #[.string fs[k].path, .int .i64 fs[k].mode, .string fs[k].data] 65)
      have hsz := hbr.size
      generalize fs[k].path = p at c0 hsn hown hbr1
      generalize fs[k].mode = m at c1 hown hbr1
      generalize fs[k].data = d at c2 hown hbr1
      go_wp2_with (at_builtin; refine append_at rfl _ _ 49 rfl w.heap.size 9 1 16 Tryz.underlying49 _ info_str rfl (by decide) _ _ _ rfl hown _ ?c0 [.string p] rfl rfl (by simp [Value.oneCell']) ?c1 ?c2 ?c3 ?_)
      case c0 => simp
      case c1 => unfold maxLen; omega
      case c2 => omega
      case c3 => simp; omega
      intro v' w3 hown3 hb3
      have Hown3 := Lib.hid (show w3.ownsRow w.heap.size 9 1 v' (k + 1) (pathCells fs (k + 1)) by rw [hsn.out]; exact hown3)
      clear hown3 hown Hown hsn
      go_wp2_with fail
      go_roundw
      case rel => exact ⟨k + 1, by go_num, by omega, Hown3, hbr1.trans hb3⟩
      case measure => simp [intOf]; omega
    · obtain rfl : k = fs.length := by omega
      have hown := Hown.out
      unfold pathCells at hown
      rw [List.take_length] at hown
      have hml : (fs.map TFile.path).length = fs.length := by simp
      obtain ⟨na, nc, hv, hat⟩ := readsStrs_own (ss := fs.map TFile.path) (by rw [hml]; exact hown)
      subst hv
      have HP := Lib.hid (paths_any na nc (fs.map TFile.path) wr hat (by omega) (fun s hs => by
        obtain ⟨f, hf, rfl⟩ := List.mem_map.1 hs
        exact (Hs.out f hf).1))
      rw [hml] at HP ⊢
      clear Hown hown hat
      by_cases hp0 : pathsE (fs.map TFile.path) = 0
      · have hE := Lib.hid (show checkE fs = modesE (fs.drop 0) by unfold checkE; rw [if_neg (fun hh => hh hp0)]; rfl)
        rw [hp0] at HP
        clear hp0
        go_wp2_with fail
        refine HP.out.mono ?_
        rintro e w1 ⟨rfl, hb1⟩
        have hbr1 := below_step hbr hb1
        clear HP hb1 hbr hlt hk
        go_wp2_with fail
        go_loopw [8, 28] (fun _ i wr => ∃ k : Nat, i = .int .i64 k ∧ k ≤ fs.length ∧ Hid (checkE fs = modesE (fs.drop k)) ∧ Below w.heap.size w wr) (fun _ i _ => fs.length - (intOf i).toNat)
        case atStart => exact ⟨0, rfl, Nat.zero_le _, hE, hbr1⟩
        case round =>
          obtain ⟨k, rfl, hk, HE, hbr⟩ := hrel
          clear hbr1 hE
          by_cases hlt : k < fs.length
          · obtain ⟨b, off, rfl, hb, c0, c1, c2⟩ := (H.out.below hbr).get k hlt
            have hE2 := Lib.hid (HE.out.trans (modes_step hlt))
            have hbr1 := hbr.alloc hbr.size (.cells #[.string fs[k].path, .int .i64 fs[k].mode, .string fs[k].data] 65)
            generalize fs[k].path = p at c0 hbr1
            generalize fs[k].mode = m at c1 hbr1 hE2
            generalize fs[k].data = d at c2 hbr1 hE2
            by_cases hm : 0 ≤ m ∧ m ≤ 511
            · have hdm : decide (0 ≤ m ∧ m ≤ 511) = true := decide_eq_true hm
              have hE3 := Lib.hid (hE2.out.trans (if_neg (by omega)))
              by_cases hd : 65536 < d.size
              · have hE4 := Lib.hid (hE3.out.trans (if_pos hd))
                have HM := Lib.hid (fun w1 => mode_any m w1)
                rw [hdm] at HM
                clear hm hdm hE2 hE3
                go_wp2_with fail
                refine (HM.out _).mono ?_
                rintro e w2 ⟨rfl, rfl⟩
                go_wp2_with fail
                go_ret
                exact ⟨ret_int hE4.out.symm, hbr1⟩
              · have hE4 := Lib.hid (hE3.out.trans (if_neg hd))
                have HM := Lib.hid (fun w1 => mode_any m w1)
                rw [hdm] at HM
                clear hm hdm hE2 hE3
                go_wp2_with fail
                refine (HM.out _).mono ?_
                rintro e w2 ⟨rfl, rfl⟩
                go_wp2_with fail
                go_roundw
                case rel => exact ⟨k + 1, by go_num, by omega, hE4, hbr1⟩
                case measure => simp [intOf]; omega
            · have hdm : decide (0 ≤ m ∧ m ≤ 511) = false := decide_eq_false hm
              have hE3 := Lib.hid (hE2.out.trans (if_pos (by omega)))
              have HM := Lib.hid (fun w1 => mode_any m w1)
              rw [hdm] at HM
              clear hm hdm hE2
              go_wp2_with fail
              refine (HM.out _).mono ?_
              rintro e w2 ⟨rfl, rfl⟩
              go_wp2_with fail
              go_ret
              exact ⟨ret_int hE3.out.symm, hbr1⟩
          · have hE2 := Lib.hid (HE.out.trans (modes_end hlt))
            go_wp2_with fail
            go_ret
            exact ⟨ret_int hE2.out.symm, hbr⟩
      · have hE := Lib.hid (show checkE fs = pathsE (fs.map TFile.path) by unfold checkE; rw [if_pos hp0])
        generalize pathsE (fs.map TFile.path) = pe at HP hE hp0
        have hpb : (pe != 0) = true := by rw [bne_iff_ne]; exact hp0
        clear hp0
        go_wp2_with fail
        refine HP.out.mono ?_
        rintro e w1 ⟨rfl, hb1⟩
        have hbr1 := below_step hbr hb1
        go_wp2_with fail
        go_ret
        exact ⟨ret_int hE.out.symm, hbr1⟩
end Go.Proofs.YtaemlplcjjbamaaGreatDoor
