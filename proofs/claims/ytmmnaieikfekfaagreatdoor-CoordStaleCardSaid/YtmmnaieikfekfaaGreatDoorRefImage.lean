/- The walk of the document's Of (layer 10) at a tree of few files. Conditions: at most 8 files, each of at most 2000 bytes. -/
import Derived.Test.YtmmnaieikfekfaaGreatDoorImage
import Derived.Test.YtmmnaieikfekfaaGreatDoorRefTree2
import Derived.Deep.RegionHeld3
namespace Go.Proofs.YtmmnaieikfekfaaGreatDoor
open Go Go.RowKit
set_option linter.unusedVariables false

theorem cnT_list (n : Nat) : (cnT n).data.toList = cnL n := by simp [cnT]
theorem ba_of (s : ByteArray) (l : List UInt8) (h : s.data.toList = l) : s = ⟨l.toArray⟩ := ba_ext (by simpa using h)
theorem app_list (a b : ByteArray) : (a ++ b).data.toList = a.data.toList ++ b.data.toList := by simp
theorem app_size (a b : ByteArray) : (a ++ b).size = a.size + b.size := by simp

set_option maxRecDepth 100000 in
set_option maxHeartbeats 8000000 in
theorem refImageOf_few (ad : Option Addr) (cap : Nat) (fs : List TFile) (w : World) (h : TfsAt w ad fs) (hl : fs.length ≤ 8) (hs : ∀ f ∈ fs, f.path.size ≤ 9223372036854775807 ∧ f.data.size ≤ 2000) :
    Calls Tryz.prog 22 #[.slice ad fs.length cap] w fun e w' => ∃ s, e = .returned (.tuple #[.string s, .int .i64 (checkE fs)]) ∧ (checkE fs = 0 → s = ⟨(headL fs.length fs ++ bodyL fs).toArray⟩) ∧ Below w.heap.size w w' := by
  have H := Lib.hid h
  have Hs := Lib.hid hs
  have HC := Lib.hid (refCheck_any ad cap fs w h (by omega) (fun f hf => ⟨(hs f hf).1, by have := (hs f hf).2; omega⟩))
  by_cases hc : checkE fs = 0
  · have Hok := Lib.hid (check_ok hc)
    rw [hc] at HC ⊢
    clear h hs hc
    go_enter Tryz.func22, Tryz.ntmps22
    go_wp2_with fail
    refine HC.out.mono ?_
    rintro e w1 ⟨rfl, hb1⟩
    clear HC
    go_wp2_with fail
    refine (refBytes_any fs.length w1 (by omega)).mono ?_
    rintro e w2 ⟨rfl, hb2⟩
    have hb02 := below_step hb1 hb2
    have O0 := Lib.hid (show (cnT fs.length).data.toList = headL fs.length (fs.take 0) by rw [cnT_list]; simp [headL])
    clear hb1 hb2
    generalize cnT fs.length = o0 at O0 ⊢
    go_wp2_with fail
    go_loopw [5, 6, 7, 8] (fun ov i _ _ wr => ∃ (k : Nat) (o : ByteArray), i = .int .i64 k ∧ k ≤ fs.length ∧ ov = .string o ∧ Hid (o.data.toList = headL fs.length (fs.take k)) ∧ Below w.heap.size w wr) (fun _ i _ _ _ => fs.length - (intOf i).toNat)
    case atStart => exact ⟨0, o0, rfl, Nat.zero_le _, rfl, O0, hb02⟩
    case round =>
      obtain ⟨k, o, rfl, hk, rfl, HO, hbr⟩ := hrel
      clear O0 hb02
      have hlen : o.size ≤ 2000 := by
        have h1 := headL_len (fs.take k) (fun f hf => ⟨Hok.out f (List.mem_of_mem_take hf), (Hs.out f (List.mem_of_mem_take hf)).2⟩)
        have h2 := cnL_le (n := fs.length) (by omega)
        have h3 : (fs.take k).length ≤ 8 := by rw [List.length_take]; omega
        have h4 : o.data.toList.length = o.size := by simp
        rw [HO.out] at h4
        unfold headL at h4
        rw [List.length_append] at h4
        omega
      by_cases hlt : k < fs.length
      · obtain ⟨b, off, rfl, hb, c0, c1, c2⟩ := (H.out.below hbr).get k hlt
        have hf := Hok.out _ (List.getElem_mem hlt)
        have hf2 := (Hs.out _ (List.getElem_mem hlt)).2
        have hsn := Lib.hid (show headL fs.length (fs.take (k + 1)) = _ by rw [List.take_succ_eq_append_getElem hlt, headL_snoc, ← HO.out])
        obtain ⟨m, hm⟩ := Int.eq_ofNat_of_zero_le hf.2.1
        have hm2 : fs[k].mode.toNat = m := by rw [hm]; rfl
        rw [hm2] at hsn
        rw [hm] at c1
        have hm511 : m ≤ 511 := by have := hf.2.2; omega
        have hp200 := hf.1
        generalize fs[k].path = p at c0 hsn hp200
        generalize fs[k].data = d at c2 hsn hf2
        have l1 := cnT_size (n := p.size) (by omega)
        have l2 := cnT_size (n := m) (by omega)
        have l3 := cnT_size (n := d.size) (by omega)
        clear hm hm2 hf
        have HT := Lib.hid (refText_any p wr (by omega))
        go_wp2_with fail
        refine HT.out.mono ?_
        rintro e w3 ⟨rfl, hb3⟩
        have hbr3 := below_step hbr hb3
        have d1 : w3.cell? ⟨b, off + k * 3 + 1, none⟩ = some (.int .i64 (m : Int)) := (hb3.cell (p := ⟨b, off + k * 3 + 1, none⟩) hb).trans c1
        have d2 : w3.cell? ⟨b, off + k * 3 + 2, none⟩ = some (.string d) := (hb3.cell (p := ⟨b, off + k * 3 + 2, none⟩) hb).trans c2
        have hb3l : b < w3.heap.size := Nat.lt_of_lt_of_le hb hb3.size
        have ht := Lib.hid (show ((o ++ (cnT p.size ++ p)) ++ cnT m ++ cnT d.size).data.toList = headL fs.length (fs.take (k + 1)) by
          rw [hsn.out, app_list, app_list, app_list, app_list, cnT_list, cnT_list, cnT_list]; simp)
        have hts := app_size (cnT p.size) p
        generalize cnT p.size ++ p = tp at ht hts ⊢
        have hs1 := app_size o tp
        generalize ho1 : o ++ tp = o1 at ht hs1
        have hs2 := app_size o1 (cnT m)
        generalize ho2 : o1 ++ cnT m = o2 at ht hs2
        have n1 : ¬ 9223372036854775807 < o.size + tp.size := by omega
        have n2 : ¬ 9223372036854775807 < o1.size + (cnT m).size := by omega
        have n3 : ¬ 9223372036854775807 < o2.size + (cnT d.size).size := by omega
        have hmb : m ≤ 4611686018427387903 := by omega
        have hdb : d.size ≤ 4611686018427387903 := by omega
        clear HT c0 c1 c2 hb hbr hb3 hts hs1 hs2 hsn HO l1 l2 l3
        have HKC := Lib.hid (show ∀ w', Below w3.heap.size w3 w' → w'.cell? ⟨b, off + k * 3 + 1, none⟩ = some (.int .i64 (m : Int)) ∧ w'.cell? ⟨b, off + k * 3 + 2, none⟩ = some (.string d) from fun w' hb => ⟨(hb.cell (p := ⟨b, off + k * 3 + 1, none⟩) hb3l).trans d1, (hb.cell (p := ⟨b, off + k * 3 + 2, none⟩) hb3l).trans d2⟩)
        go_wp2_with fail
        go_region_held3 (fun w' => w'.cell? ⟨b, off + k * 3 + 1, none⟩ = some (.int .i64 (m : Int)) ∧ w'.cell? ⟨b, off + k * 3 + 2, none⟩ = some (.string d))
          (first | exact HKC.out _ (by assumption) | exact HKC.out _ (Below.refl _ _).drew | go_keep)
          ((go_at_call 34; refine (refBytes_any _ _ (by assumption)).mono ?_; rintro e wa ⟨rfl, hba⟩; have hba2 : Below w3.heap.size w3 wa := by (first | exact below_step (by assumption) hba | exact below_step ((Below.refl _ _).drew) hba)))
        have hbr4 := below_step hbr3 hba2
        clear hbr3 hba2 hba
        go_wp2_with fail
        go_roundw
        case rel => exact ⟨k + 1, _, by go_num, by omega, rfl, ht, hbr4⟩
        case measure => simp [intOf]; omega
      · obtain rfl : k = fs.length := by omega
        have O2 := Lib.hid (show o.data.toList = headL fs.length fs ++ bodyL (fs.take 0) by
          have h := HO.out
          rw [List.take_length] at h
          rw [h]
          simp [bodyL])
        have hlen2 : (headL fs.length fs).length ≤ 2000 := by
          have h := HO.out
          rw [List.take_length] at h
          rw [← h]
          simpa using hlen
        clear HO hlen hk hlt
        go_wp2_with fail
        go_loopw [5, 9] (fun ov i wr => ∃ (k : Nat) (o : ByteArray), i = .int .i64 k ∧ k ≤ fs.length ∧ ov = .string o ∧ Hid (o.data.toList = headL fs.length fs ++ bodyL (fs.take k)) ∧ Below w.heap.size w wr) (fun _ i _ => fs.length - (intOf i).toNat)
        case atStart => exact ⟨0, o, rfl, Nat.zero_le _, rfl, O2, hbr⟩
        case round =>
          clear O2 hbr
          obtain ⟨k, o, rfl, hk, rfl, HO, hbr⟩ := hrel
          have hlen : o.size ≤ 18000 := by
            have h1 := bodyL_len (fs.take k) (fun f hf => (Hs.out f (List.mem_of_mem_take hf)).2)
            have h3 : (fs.take k).length ≤ 8 := by rw [List.length_take]; omega
            have h4 : o.data.toList.length = o.size := by simp
            rw [HO.out, List.length_append] at h4
            omega
          by_cases hlt : k < fs.length
          · obtain ⟨b, off, rfl, hb, c0, c1, c2⟩ := (H.out.below hbr).get k hlt
            have hf2 := (Hs.out _ (List.getElem_mem hlt)).2
            have hsn := Lib.hid (show (o ++ fs[k].data).data.toList = headL fs.length fs ++ bodyL (fs.take (k + 1)) by rw [List.take_succ_eq_append_getElem hlt, bodyL_snoc, app_list, HO.out, List.append_assoc])
            generalize fs[k].data = d at c2 hsn hf2
            have n1 : ¬ 9223372036854775807 < o.size + d.size := by omega
            have hos := app_size o d
            generalize ho1 : o ++ d = o1 at hsn hos
            have n2 : o1.size ≤ 524288 := by omega
            clear hos hlen hf2 HO c0 c1
            go_wp2_with fail
            go_roundw
            case rel => exact ⟨k + 1, o1, by go_num, by omega, rfl, hsn, hbr⟩
            case measure => simp [intOf]; omega
          · obtain rfl : k = fs.length := by omega
            have hs := Lib.hid (show o = ⟨(headL fs.length fs ++ bodyL fs).toArray⟩ from ba_of _ _ (by
              have h := HO.out
              rw [List.take_length] at h
              exact h))
            clear HO hlen
            go_wp2_with fail
            go_ret2
            exact ⟨o, rfl, fun _ => hs.out, hbr⟩
  · have hcb : (checkE fs != 0) = true := by rw [bne_iff_ne]; exact hc
    have Hc := Lib.hid hc
    generalize checkE fs = ce at HC hcb Hc ⊢
    clear h hs hc
    go_enter Tryz.func22, Tryz.ntmps22
    go_wp2_with fail
    refine HC.out.mono ?_
    rintro e w1 ⟨rfl, hb1⟩
    go_wp2_with fail
    go_ret2
    exact ⟨_, rfl, fun h => absurd h Hc.out, hb1⟩
end Go.Proofs.YtmmnaieikfekfaaGreatDoor
