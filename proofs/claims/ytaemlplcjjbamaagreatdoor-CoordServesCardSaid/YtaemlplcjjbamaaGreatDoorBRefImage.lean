/- The walks of the document's Within, together, Check (layer 9). Conditions: sizes. The walk of the document's Of (layer 10) at a tree of few files. Conditions: at most 8 files, each of at most 2000 bytes. -/
import Derived.Test.YtaemlplcjjbamaaGreatDoorBRefTree
import Derived.Test.YtaemlplcjjbamaaGreatDoorBTree3
import Derived.Test.YtaemlplcjjbamaaGreatDoorBCHas
import Derived.Deep.RegionHeld3
namespace Go.Proofs.YtaemlplcjjbamaaGreatDoor
open Go Go.RowKit
set_option linter.unusedVariables false
theorem prefix_iff2 (s p : ByteArray) (h : p.size < s.size) : withinB s p = decide (s.extract 0 (p.size + 1) = p ++ ⟨#[47]⟩) := by
  rw [Bool.eq_iff_iff]
  simp only [withinB, decide_eq_true_eq]
  have hx : (s.extract 0 (p.size + 1)).data.toList = s.data.toList.take (p.size + 1) := by rw [extract_list, List.drop_zero, Nat.sub_zero]
  have hp : (p ++ ⟨#[47]⟩ : ByteArray).data.toList = p.data.toList ++ [47] := by simp
  constructor
  · rintro ⟨t, ht⟩
    apply ba_ext
    rw [hx, hp, ← ht, List.take_left' (by simp)]
  · intro he
    refine ⟨s.data.toList.drop (p.size + 1), ?_⟩
    rw [← hp, ← he, hx, List.take_append_drop]
set_option maxRecDepth 100000 in
theorem refWithin_any (s p : ByteArray) (w : World) (hs : s.size ≤ 9223372036854775807) (hp : p.size ≤ 9223372036854775807) :
    Calls Tryz.prog 73 #[.string s, .string p] w fun e w' => e = .returned (.bool (withinB s p)) ∧ w = w' := by
  by_cases h1 : p.size < s.size
  · have hI := prefix_iff2 s p h1
    have hno : ¬ 9223372036854775807 < p.size + (⟨#[47]⟩ : ByteArray).size := by
      have : (⟨#[47]⟩ : ByteArray).size = 1 := rfl
      omega
    by_cases h2 : s.extract 0 (p.size + 1) = p ++ ⟨#[47]⟩
    · have q2 := strq_same h2
      have hI2 := Lib.hid (show withinB s p = true by rw [hI, decide_eq_true h2])
      clear hI h2
      go_enter Tryz.func73, Tryz.ntmps73
      go_wp2
      go_ret
      exact ⟨ret_bool hI2.out.symm, rfl⟩
    · have q2 := strq_ne h2
      have hI2 := Lib.hid (show withinB s p = false by rw [hI, decide_eq_false h2])
      clear hI h2
      go_enter Tryz.func73, Tryz.ntmps73
      go_wp2
      go_ret
      exact ⟨ret_bool hI2.out.symm, rfl⟩
  · have hI2 := Lib.hid (show withinB s p = false by rw [prefix_iff s p, decide_eq_false h1]; rfl)
    go_enter Tryz.func73, Tryz.ntmps73
    go_wp2
    go_ret
    exact ⟨ret_bool hI2.out.symm, rfl⟩
set_option maxRecDepth 100000 in
set_option maxHeartbeats 4000000 in
theorem together_any (ad : Option Addr) (cap : Nat) (l : List ByteArray) (w : World) (h : StrsAt w ad l) (hl : l.length ≤ 1000000) (hs : ∀ s ∈ l, s.size ≤ 9223372036854775807) :
    Calls Tryz.prog 42 #[.slice ad l.length cap] w fun e w' => e = .returned (.int .i64 (pathsE l)) ∧ Below w.heap.size w w' := by
  have H := Lib.hid h
  have Hs := Lib.hid (show ∀ k (hk : k < l.length), l[k].size ≤ 9223372036854775807 from fun k hk => hs _ (List.getElem_mem hk))
  by_cases h256 : 256 < l.length
  · have hE := Lib.hid (show pathsE l = 7 by unfold pathsE; rw [if_pos h256])
    clear h hs
    go_enter Tryz.func42, Tryz.ntmps42
    go_wp2_with fail
    go_ret
    exact ⟨ret_int hE.out.symm, Below.refl _ _⟩
  · have hE := Lib.hid (show pathsE l = pathsGo (prevOf l 0) (l.drop 0) by unfold pathsE; rw [if_neg h256]; rfl)
    clear h hs
    go_enter Tryz.func42, Tryz.ntmps42
    go_wp2_with fail
    go_loopw [3, 4] (fun i _ wr => ∃ k : Nat, i = .int .i64 k ∧ k ≤ l.length ∧ Hid (pathsE l = pathsGo (prevOf l k) (l.drop k)) ∧ Below w.heap.size w wr) (fun i _ _ => l.length - (intOf i).toNat)
    case atStart => exact ⟨0, rfl, Nat.zero_le _, hE, Below.refl _ _⟩
    case round =>
      obtain ⟨k, rfl, hk, HE, hbr⟩ := hrel
      by_cases hlt : k < l.length
      · have hat := strsAt_below H.out hbr
        obtain ⟨b, off, rfl, hb, hc⟩ := hat.resolve_left (by intro h; rw [h] at hlt; simp at hlt)
        have hck := hc k hlt
        have HP := Lib.hid (refPath_any l[k] wr (Hs.out k hlt))
        by_cases hp0 : pathE l[k] = 0
        · rw [hp0] at HP
          cases k with
          | zero =>
            have hE2 := Lib.hid (HE.out.trans (paths_first hlt hp0))
            have hck : wr.cell? ⟨b, off, none⟩ = some (.string l[0]) := hc 0 hlt
            generalize l[0] = s at hck HP
            clear hp0 hc hat
            go_wp2_with fail
            refine HP.out.mono ?_
            rintro e w1 ⟨rfl, hb1⟩
            have hbr1 := below_step hbr hb1
            clear hck
            go_wp2_with fail
            go_quiet (fail)
            go_wp2_with fail
            go_quiet (fail)
            go_wp2_with fail
            go_roundw
            case rel => exact ⟨1, by go_num, by omega, hE2, below_drewN hbr1 _⟩
            case measure => simp [intOf]; omega
          | succ k =>
            have hlt' : k < l.length := by omega
            have hE2 := Lib.hid (HE.out.trans (paths_step hlt hp0))
            have hcp := hc k hlt'
            have HO := Lib.hid (fun w1 => refOrder_any l[k + 1] l[k] w1 (Hs.out (k + 1) hlt) (Hs.out k hlt'))
            have HW := Lib.hid (fun w1 => refWithin_any l[k + 1] l[k] w1 (Hs.out (k + 1) hlt) (Hs.out k hlt'))
            have hE3 := Lib.hid (show pathsE l = if ordR l[k + 1].data.toList l[k].data.toList < 0 then 12 else if l[k] = l[k + 1] ∨ withinB l[k + 1] l[k] = true then 9 else pathsGo (prevOf l (k + 2)) (l.drop (k + 2)) by
              rw [hE2.out]
              simp only [(ordR_pos l[k].data.toList l[k + 1].data.toList).1])
            clear hE2 hc hat hp0
            generalize ordR l[k + 1].data.toList l[k].data.toList = z at HO hE3
            generalize withinB l[k + 1] l[k] = wi at HW hE3
            have hcc := Lib.hid hck
            have hcq := Lib.hid hcp
            generalize hx : l[k + 1] = s at hck HP HO HW hcc hE3
            generalize hy : l[k] = p at hcp HO HW hcq hE3
            clear hx hy
            have e1 : ((k + 1 : Nat) : Int) - 1 = (k : Int) := by omega
            have ek : (0 : Int) < ((k + 1 : Nat) : Int) := by omega
            have ekk : (0 : Int) < (k : Int) + 1 := by omega
            go_wp2_with fail
            refine HP.out.mono ?_
            rintro e w1 ⟨rfl, hb1⟩
            have hbr1 := below_step hbr hb1
            have hcs : w1.cell? ⟨b, off + (k + 1), none⟩ = some (.string s) := (hb1.cell (p := ⟨b, off + (k + 1), none⟩) hb).trans hcc.out
            have hcp1 : w1.cell? ⟨b, off + k, none⟩ = some (.string p) := (hb1.cell (p := ⟨b, off + k, none⟩) hb).trans hcq.out
            clear hck hcp hcc hcq HP hb1 hbr
            go_wp2_with fail
            go_quiet ((go_at_call 72; first | exact quiet_left (HO.out _) | exact quiet_add_left (HO.out _)))
            have hbr2 := below_drewN hbr1 nq
            have hcs2 : (w1.drewN nq).cell? ⟨b, off + (k + 1), none⟩ = some (.string s) := hcs
            have hcp2 : (w1.drewN nq).cell? ⟨b, off + k, none⟩ = some (.string p) := hcp1
            generalize w1.drewN nq = w2 at hbr2 hcs2 hcp2 ⊢
            clear hbr1 hcs hcp1 HO
            by_cases hz1 : z < 0
            · have hE4 := Lib.hid (hE3.out.trans (if_pos hz1))
              clear hE3
              go_wp2_with fail
              go_ret
              exact ⟨ret_int hE4.out.symm, hbr2⟩
            · by_cases heq : p = s
              · have hE4 := Lib.hid ((hE3.out.trans (if_neg hz1)).trans (if_pos (Or.inl heq)))
                have q2 := strq_same heq.symm
                clear hE3 heq
                go_wp2_with fail
                go_quiet (fail)
                go_wp2_with fail
                go_ret
                exact ⟨ret_int hE4.out.symm, below_drewN hbr2 _⟩
              · have q2 := strq_ne (fun e => heq e.symm)
                have hE4 := Lib.hid (show pathsE l = if wi = true then 9 else pathsGo (prevOf l (k + 2)) (l.drop (k + 2)) by rw [hE3.out, if_neg hz1]; simp [heq])
                clear hE3 heq
                go_wp2_with fail
                go_quiet ((go_at_call 73; first | exact quiet_left (HW.out _) | exact quiet_add_left (HW.out _)))
                cases wi with
                | true =>
                  rw [if_pos rfl] at hE4
                  go_wp2_with fail
                  go_ret
                  exact ⟨ret_int hE4.out.symm, below_drewN hbr2 _⟩
                | false =>
                  rw [if_neg (by decide)] at hE4
                  go_wp2_with fail
                  go_roundw
                  case rel => exact ⟨k + 2, by go_num, by omega, hE4, below_drewN hbr2 _⟩
                  case measure => simp [intOf]; omega
        · have hE2 := Lib.hid (HE.out.trans (paths_bad hlt hp0))
          generalize pathE l[k] = pe at HP hE2 hp0
          generalize l[k] = s at hck HP
          have hpb : (pe != 0) = true := by rw [bne_iff_ne]; exact hp0
          clear hp0 hc hat
          go_wp2_with fail
          refine HP.out.mono ?_
          rintro e w1 ⟨rfl, hb1⟩
          have hbr1 := below_step hbr hb1
          clear hck
          go_wp2_with fail
          go_ret
          exact ⟨ret_int hE2.out.symm, hbr1⟩
      · have hE2 := Lib.hid (HE.out.trans (paths_end hlt))
        go_wp2_with fail
        go_ret
        exact ⟨ret_int hE2.out.symm, hbr⟩
set_option maxRecDepth 100000 in
set_option maxHeartbeats 4000000 in
theorem refCheck_any (ad : Option Addr) (cap : Nat) (fs : List TFile) (w : World) (h : TfsAt w ad fs) (hl : fs.length ≤ 1000) (hs : ∀ f ∈ fs, f.path.size ≤ 9223372036854775807 ∧ f.data.size ≤ 9223372036854775807) :
    Calls Tryz.prog 22 #[.slice ad fs.length cap] w fun e w' => e = .returned (.int .i64 (checkE fs)) ∧ Below w.heap.size w w' := by
  have H := Lib.hid h
  have Hs := Lib.hid hs
  clear h hs
  go_enter Tryz.func22, Tryz.ntmps22
  go_wp2_with fail
  go_loopw [3, 4] (fun nv i wr => ∃ k : Nat, i = .int .i64 k ∧ k ≤ fs.length ∧ Hid (wr.ownsRow w.heap.size 9 1 nv k (pathCells fs k)) ∧ Below w.heap.size w wr) (fun _ i _ => fs.length - (intOf i).toNat)
  case atStart => exact ⟨0, rfl, Nat.zero_le _, Lib.hid (World.ownsRow_nil _ _ _ _), Below.refl _ _⟩
  case round =>
    obtain ⟨k, rfl, hk, Hown, hbr⟩ := hrel
    by_cases hlt : k < fs.length
    · obtain ⟨b, off, rfl, hb, c0, c1, c2⟩ := (H.out.below hbr).get k hlt
      have hsn := Lib.hid (pathsT_snoc fs k hlt)
      have hown := Hown.out
      have hsz := hbr.size
      generalize fs[k].path = p at c0 hsn
      go_wp2_with (at_builtin; refine append_at rfl _ _ 49 rfl w.heap.size 9 1 16 Tryz.underlying49 _ info_str rfl (by decide) _ _ _ rfl hown _ rfl [.string p] rfl rfl (by simp [Value.oneCell']) ?c1 ?c2 ?c3 ?_)
      case c1 => unfold maxLen; omega
      case c2 => omega
      case c3 => exact hsz
      intro v' w3 hown3 hb3
      have Hown3 := Lib.hid (show w3.ownsRow w.heap.size 9 1 v' (k + 1) (pathCells fs (k + 1)) by rw [hsn.out]; exact hown3)
      clear hown3 hown Hown hsn
      go_wp2_with fail
      go_roundw
      case rel => exact ⟨k + 1, by go_num, by omega, Hown3, hbr.trans hb3⟩
      case measure => simp [intOf]; omega
    · obtain rfl : k = fs.length := by omega
      have hown := Hown.out
      unfold pathCells at hown
      rw [List.take_length] at hown
      have hml : (fs.map TFile.path).length = fs.length := by simp
      obtain ⟨na, nc, hv, hat⟩ := readsStrs_own (ss := fs.map TFile.path) (by rw [hml]; exact hown)
      subst hv
      have HP := Lib.hid (together_any na nc (fs.map TFile.path) wr hat (by omega) (fun s hs => by
        obtain ⟨f, hf, rfl⟩ := List.mem_map.1 hs
        exact (Hs.out f hf).1))
      rw [hml] at HP ⊢
      clear Hown hown hat
      by_cases hp0 : pathsE (fs.map TFile.path) = 0
      · have hE := Lib.hid (show checkE fs = modesE (fs.drop 0) by unfold checkE; rw [if_neg (fun hh => hh hp0)]; rfl)
        rw [hp0] at HP
        clear hp0
        go_wp2_with fail
        refine HP.out.mono ?_
        rintro e w1 ⟨rfl, hb1⟩
        have hbr1 := below_step hbr hb1
        clear HP hb1 hbr hlt hk
        go_wp2_with fail
        go_loopw [6] (fun i wr => ∃ k : Nat, i = .int .i64 k ∧ k ≤ fs.length ∧ Hid (checkE fs = modesE (fs.drop k)) ∧ Below w.heap.size w wr) (fun i _ => fs.length - (intOf i).toNat)
        case atStart => exact ⟨0, rfl, Nat.zero_le _, hE, hbr1⟩
        case round =>
          obtain ⟨k, rfl, hk, HE, hbr⟩ := hrel
          clear hbr1 hE
          by_cases hlt : k < fs.length
          · obtain ⟨b, off, rfl, hb, c0, c1, c2⟩ := (H.out.below hbr).get k hlt
            have hE2 := Lib.hid (HE.out.trans (modes_step hlt))
            generalize fs[k].path = p at c0
            generalize fs[k].mode = m at c1 hE2
            generalize fs[k].data = d at c2 hE2
            by_cases hm : m < 0
            · have hE3 := Lib.hid (hE2.out.trans (if_pos (Or.inl hm)))
              clear hE2
              go_wp2_with fail
              go_ret
              exact ⟨ret_int hE3.out.symm, hbr⟩
            · by_cases hm2 : 511 < m
              · have hE3 := Lib.hid (hE2.out.trans (if_pos (Or.inr hm2)))
                clear hE2
                go_wp2_with fail
                go_ret
                exact ⟨ret_int hE3.out.symm, hbr⟩
              · have hE3 := Lib.hid (hE2.out.trans (if_neg (by omega)))
                clear hE2
                by_cases hd : 65536 < d.size
                · have hE4 := Lib.hid (hE3.out.trans (if_pos hd))
                  clear hE3
                  go_wp2_with fail
                  go_ret
                  exact ⟨ret_int hE4.out.symm, hbr⟩
                · have hE4 := Lib.hid (hE3.out.trans (if_neg hd))
                  clear hE3
                  go_wp2_with fail
                  go_roundw
                  case rel => exact ⟨k + 1, by go_num, by omega, hE4, hbr⟩
                  case measure => simp [intOf]; omega
          · have hE2 := Lib.hid (HE.out.trans (modes_end hlt))
            go_wp2_with fail
            go_ret
            exact ⟨ret_int hE2.out.symm, hbr⟩
      · have hE := Lib.hid (show checkE fs = pathsE (fs.map TFile.path) by unfold checkE; rw [if_pos hp0])
        generalize pathsE (fs.map TFile.path) = pe at HP hE hp0
        have hpb : (pe != 0) = true := by rw [bne_iff_ne]; exact hp0
        clear hp0
        go_wp2_with fail
        refine HP.out.mono ?_
        rintro e w1 ⟨rfl, hb1⟩
        have hbr1 := below_step hbr hb1
        go_wp2_with fail
        go_ret
        exact ⟨ret_int hE.out.symm, hbr1⟩
end Go.Proofs.YtaemlplcjjbamaaGreatDoor
namespace Go.Proofs.YtaemlplcjjbamaaGreatDoor
open Go Go.RowKit
set_option linter.unusedVariables false
theorem cnT_list (n : Nat) : (cnT n).data.toList = cnL n := by simp [cnT]
theorem ba_of (s : ByteArray) (l : List UInt8) (h : s.data.toList = l) : s = ⟨l.toArray⟩ := ba_ext (by simpa using h)
theorem app_list (a b : ByteArray) : (a ++ b).data.toList = a.data.toList ++ b.data.toList := by simp
theorem app_size (a b : ByteArray) : (a ++ b).size = a.size + b.size := by simp
set_option maxRecDepth 100000 in
set_option maxHeartbeats 8000000 in
theorem refImageOf_few (ad : Option Addr) (cap : Nat) (fs : List TFile) (w : World) (h : TfsAt w ad fs) (hl : fs.length ≤ 8) (hs : ∀ f ∈ fs, f.path.size ≤ 9223372036854775807 ∧ f.data.size ≤ 2000) :
    Calls Tryz.prog 10 #[.slice ad fs.length cap] w fun e w' => ∃ s, e = .returned (.tuple #[.string s, .int .i64 (checkE fs)]) ∧ (checkE fs = 0 → s = ⟨(headL fs.length fs ++ bodyL fs).toArray⟩) ∧ Below w.heap.size w w' := by
  have H := Lib.hid h
  have Hs := Lib.hid hs
  have HC := Lib.hid (refCheck_any ad cap fs w h (by omega) (fun f hf => ⟨(hs f hf).1, by have := (hs f hf).2; omega⟩))
  by_cases hc : checkE fs = 0
  · have Hok := Lib.hid (check_ok hc)
    rw [hc] at HC ⊢
    clear h hs hc
    go_enter Tryz.func10, Tryz.ntmps10
    go_wp2_with fail
    refine HC.out.mono ?_
    rintro e w1 ⟨rfl, hb1⟩
    clear HC
    go_wp2_with fail
    refine (refBytes_any fs.length w1 (by omega)).mono ?_
    rintro e w2 ⟨rfl, hb2⟩
    have hb02 := below_step hb1 hb2
    have O0 := Lib.hid (show (cnT fs.length).data.toList = headL fs.length (fs.take 0) by rw [cnT_list]; simp [headL])
    clear hb1 hb2
    generalize cnT fs.length = o0 at O0 ⊢
    go_wp2_with fail
    go_loopw [5, 6, 7, 8] (fun ov i _ _ wr => ∃ (k : Nat) (o : ByteArray), i = .int .i64 k ∧ k ≤ fs.length ∧ ov = .string o ∧ Hid (o.data.toList = headL fs.length (fs.take k)) ∧ Below w.heap.size w wr) (fun _ i _ _ _ => fs.length - (intOf i).toNat)
    case atStart => exact ⟨0, o0, rfl, Nat.zero_le _, rfl, O0, hb02⟩
    case round =>
      obtain ⟨k, o, rfl, hk, rfl, HO, hbr⟩ := hrel
      clear O0 hb02
      have hlen : o.size ≤ 2000 := by
        have h1 := headL_len (fs.take k) (fun f hf => ⟨Hok.out f (List.mem_of_mem_take hf), (Hs.out f (List.mem_of_mem_take hf)).2⟩)
        have h2 := cnL_le (n := fs.length) (by omega)
        have h3 : (fs.take k).length ≤ 8 := by rw [List.length_take]; omega
        have h4 : o.data.toList.length = o.size := by simp
        rw [HO.out] at h4
        unfold headL at h4
        rw [List.length_append] at h4
        omega
      by_cases hlt : k < fs.length
      · obtain ⟨b, off, rfl, hb, c0, c1, c2⟩ := (H.out.below hbr).get k hlt
        have hf := Hok.out _ (List.getElem_mem hlt)
        have hf2 := (Hs.out _ (List.getElem_mem hlt)).2
        have hsn := Lib.hid (show headL fs.length (fs.take (k + 1)) = _ by rw [List.take_succ_eq_append_getElem hlt, headL_snoc, ← HO.out])
        obtain ⟨m, hm⟩ := Int.eq_ofNat_of_zero_le hf.2.1
        have hm2 : fs[k].mode.toNat = m := by rw [hm]; rfl
        rw [hm2] at hsn
        rw [hm] at c1
        have hm511 : m ≤ 511 := by have := hf.2.2; omega
        have hp200 := hf.1
        generalize fs[k].path = p at c0 hsn hp200
        generalize fs[k].data = d at c2 hsn hf2
        have l1 := cnT_size (n := p.size) (by omega)
        have l2 := cnT_size (n := m) (by omega)
        have l3 := cnT_size (n := d.size) (by omega)
        clear hm hm2 hf
        have HT := Lib.hid (refText_any p wr (by omega))
        go_wp2_with fail
        refine HT.out.mono ?_
        rintro e w3 ⟨rfl, hb3⟩
        have hbr3 := below_step hbr hb3
        have d1 : w3.cell? ⟨b, off + k * 3 + 1, none⟩ = some (.int .i64 (m : Int)) := (hb3.cell (p := ⟨b, off + k * 3 + 1, none⟩) hb).trans c1
        have d2 : w3.cell? ⟨b, off + k * 3 + 2, none⟩ = some (.string d) := (hb3.cell (p := ⟨b, off + k * 3 + 2, none⟩) hb).trans c2
        have hb3l : b < w3.heap.size := Nat.lt_of_lt_of_le hb hb3.size
        have ht := Lib.hid (show ((o ++ (cnT p.size ++ p)) ++ cnT m ++ cnT d.size).data.toList = headL fs.length (fs.take (k + 1)) by
          rw [hsn.out, app_list, app_list, app_list, app_list, cnT_list, cnT_list, cnT_list]; simp)
        have hts := app_size (cnT p.size) p
        generalize cnT p.size ++ p = tp at ht hts ⊢
        have hs1 := app_size o tp
        generalize ho1 : o ++ tp = o1 at ht hs1
        have hs2 := app_size o1 (cnT m)
        generalize ho2 : o1 ++ cnT m = o2 at ht hs2
        have n1 : ¬ 9223372036854775807 < o.size + tp.size := by omega
        have n2 : ¬ 9223372036854775807 < o1.size + (cnT m).size := by omega
        have n3 : ¬ 9223372036854775807 < o2.size + (cnT d.size).size := by omega
        have hmb : m ≤ 4611686018427387903 := by omega
        have hdb : d.size ≤ 4611686018427387903 := by omega
        clear HT c0 c1 c2 hb hbr hb3 hts hs1 hs2 hsn HO l1 l2 l3
        have HKC := Lib.hid (show ∀ w', Below w3.heap.size w3 w' → w'.cell? ⟨b, off + k * 3 + 1, none⟩ = some (.int .i64 (m : Int)) ∧ w'.cell? ⟨b, off + k * 3 + 2, none⟩ = some (.string d) from fun w' hb => ⟨(hb.cell (p := ⟨b, off + k * 3 + 1, none⟩) hb3l).trans d1, (hb.cell (p := ⟨b, off + k * 3 + 2, none⟩) hb3l).trans d2⟩)
        go_wp2_with fail
        go_region_held3 (fun w' => w'.cell? ⟨b, off + k * 3 + 1, none⟩ = some (.int .i64 (m : Int)) ∧ w'.cell? ⟨b, off + k * 3 + 2, none⟩ = some (.string d))
          (first | exact HKC.out _ (by assumption) | exact HKC.out _ (Below.refl _ _).drew | go_keep)
          ((go_at_call 23; refine (refBytes_any _ _ (by assumption)).mono ?_; rintro e wa ⟨rfl, hba⟩; have hba2 : Below w3.heap.size w3 wa := by (first | exact below_step (by assumption) hba | exact below_step ((Below.refl _ _).drew) hba)))
        have hbr4 := below_step hbr3 hba2
        clear hbr3 hba2 hba
        go_wp2_with fail
        go_roundw
        case rel => exact ⟨k + 1, _, by go_num, by omega, rfl, ht, hbr4⟩
        case measure => simp [intOf]; omega
      · obtain rfl : k = fs.length := by omega
        have O2 := Lib.hid (show o.data.toList = headL fs.length fs ++ bodyL (fs.take 0) by
          have h := HO.out
          rw [List.take_length] at h
          rw [h]
          simp [bodyL])
        have hlen2 : (headL fs.length fs).length ≤ 2000 := by
          have h := HO.out
          rw [List.take_length] at h
          rw [← h]
          simpa using hlen
        clear HO hlen hk hlt
        go_wp2_with fail
        go_loopw [5, 9] (fun ov i wr => ∃ (k : Nat) (o : ByteArray), i = .int .i64 k ∧ k ≤ fs.length ∧ ov = .string o ∧ Hid (o.data.toList = headL fs.length fs ++ bodyL (fs.take k)) ∧ Below w.heap.size w wr) (fun _ i _ => fs.length - (intOf i).toNat)
        case atStart => exact ⟨0, o, rfl, Nat.zero_le _, rfl, O2, hbr⟩
        case round =>
          clear O2 hbr
          obtain ⟨k, o, rfl, hk, rfl, HO, hbr⟩ := hrel
          have hlen : o.size ≤ 18000 := by
            have h1 := bodyL_len (fs.take k) (fun f hf => (Hs.out f (List.mem_of_mem_take hf)).2)
            have h3 : (fs.take k).length ≤ 8 := by rw [List.length_take]; omega
            have h4 : o.data.toList.length = o.size := by simp
            rw [HO.out, List.length_append] at h4
            omega
          by_cases hlt : k < fs.length
          · obtain ⟨b, off, rfl, hb, c0, c1, c2⟩ := (H.out.below hbr).get k hlt
            have hf2 := (Hs.out _ (List.getElem_mem hlt)).2
            have hsn := Lib.hid (show (o ++ fs[k].data).data.toList = headL fs.length fs ++ bodyL (fs.take (k + 1)) by rw [List.take_succ_eq_append_getElem hlt, bodyL_snoc, app_list, HO.out, List.append_assoc])
            generalize fs[k].data = d at c2 hsn hf2
            have n1 : ¬ 9223372036854775807 < o.size + d.size := by omega
            have hos := app_size o d
            generalize ho1 : o ++ d = o1 at hsn hos
            have n2 : o1.size ≤ 524288 := by omega
            clear hos hlen hf2 HO c0 c1
            go_wp2_with fail
            go_roundw
            case rel => exact ⟨k + 1, o1, by go_num, by omega, rfl, hsn, hbr⟩
            case measure => simp [intOf]; omega
          · obtain rfl : k = fs.length := by omega
            have hs := Lib.hid (show o = ⟨(headL fs.length fs ++ bodyL fs).toArray⟩ from ba_of _ _ (by
              have h := HO.out
              rw [List.take_length] at h
              exact h))
            clear HO hlen
            go_wp2_with fail
            go_ret2
            exact ⟨o, rfl, fun _ => hs.out, hbr⟩
  · have hcb : (checkE fs != 0) = true := by rw [bne_iff_ne]; exact hc
    have Hc := Lib.hid hc
    generalize checkE fs = ce at HC hcb Hc ⊢
    clear h hs hc
    go_enter Tryz.func10, Tryz.ntmps10
    go_wp2_with fail
    refine HC.out.mono ?_
    rintro e w1 ⟨rfl, hb1⟩
    go_wp2_with fail
    go_ret2
    exact ⟨_, rfl, fun h => absurd h Hc.out, hb1⟩
end Go.Proofs.YtaemlplcjjbamaaGreatDoor
