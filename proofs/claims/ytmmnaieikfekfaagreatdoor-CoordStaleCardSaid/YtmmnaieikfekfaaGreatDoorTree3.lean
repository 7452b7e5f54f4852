/- The walk of tree.Check. Conditions: at most 1000 files; texts of at most 2^62 bytes. -/
import Derived.Test.YtmmnaieikfekfaaGreatDoorTree2
namespace Go.Proofs.YtmmnaieikfekfaaGreatDoor
open Go Go.RowKit
set_option linter.unusedVariables false

theorem info_str : (Tryz.prog.info? 9).map (fun i => (i.zero, i.size, i.bytes)) = some (some (.string ByteArray.empty), 1, 16) := by kernel_rfl
def pathCells (fs : List TFile) (k : Nat) : List Value := ((fs.take k).map TFile.path).map Value.string
theorem pathsT_snoc (fs : List TFile) (k : Nat) (h : k < fs.length) : pathCells fs (k + 1) = pathCells fs k ++ [.string fs[k].path] := by
  unfold pathCells
  rw [List.take_succ_eq_append_getElem h, List.map_append, List.map_append]
  rfl
set_option maxRecDepth 100000 in
set_option maxHeartbeats 4000000 in
theorem check_any (ad : Option Addr) (cap : Nat) (fs : List TFile) (w : World) (h : TfsAt w ad fs) (hl : fs.length ≤ 1000) (hs : ∀ f ∈ fs, f.path.size ≤ 9223372036854775807 ∧ f.data.size ≤ 9223372036854775807) :
    Calls Tryz.prog 97 #[.slice ad fs.length cap] w fun e w' => e = .returned (.int .i64 (checkE fs)) ∧ Below w.heap.size w w' := by
  have H := Lib.hid h
  have Hs := Lib.hid hs
  clear h hs
  go_enter Tryz.func97, Tryz.ntmps97
  go_wp2_with fail
  go_loopw [3, 5, 11] (fun nv _ i wr => ∃ k : Nat, i = .int .i64 k ∧ k ≤ fs.length ∧ Hid (wr.ownsRow w.heap.size 9 1 nv k (pathCells fs k)) ∧ Below w.heap.size w wr) (fun _ _ i _ => fs.length - (intOf i).toNat)
  case atStart => exact ⟨0, rfl, Nat.zero_le _, Lib.hid (World.ownsRow_nil _ _ _ _), Below.refl _ _⟩
  case round =>
    obtain ⟨k, rfl, hk, Hown, hbr⟩ := hrel
    by_cases hlt : k < fs.length
    · obtain ⟨b, off, rfl, hb, c0, c1, c2⟩ := (H.out.below hbr).get k hlt
      have hsn := Lib.hid (pathsT_snoc fs k hlt)
      have hown := Hown.out.alloc (.cells #[.string fs[k].path, .int .i64 fs[k].mode, .string fs[k].data] 101)
      have hbr1 := hbr.alloc hbr.size (.cells #[.string fs[k].path, .int .i64 fs[k].mode, .string fs[k].data] 101)
      have hsz := hbr.size
      generalize fs[k].path = p at c0 hsn hown hbr1
      generalize fs[k].mode = m at c1 hown hbr1
      generalize fs[k].data = d at c2 hown hbr1
      go_wp2_with (at_builtin; refine append_at rfl _ _ 32 rfl w.heap.size 9 1 16 Tryz.underlying32 _ info_str rfl (by decide) _ _ _ rfl hown _ ?c0 [.string p] rfl rfl (by simp [Value.oneCell']) ?c1 ?c2 ?c3 ?_)
      case c0 => simp
      case c1 => unfold maxLen; omega
      case c2 => omega
      case c3 => simp; omega
      intro v' w3 hown3 hb3
      have Hown3 := Lib.hid (show w3.ownsRow w.heap.size 9 1 v' (k + 1) (pathCells fs (k + 1)) by rw [hsn.out]; exact hown3)
      clear hown3 hown Hown hsn
      go_wp2_with fail
      go_roundw
      case rel => exact ⟨k + 1, by go_num, by omega, Hown3, hbr1.trans hb3⟩
      case measure => simp [intOf]; omega
    · obtain rfl : k = fs.length := by omega
      have hown := Hown.out
      unfold pathCells at hown
      rw [List.take_length] at hown
      have hml : (fs.map TFile.path).length = fs.length := by simp
      obtain ⟨na, nc, hv, hat⟩ := readsStrs_own (ss := fs.map TFile.path) (by rw [hml]; exact hown)
      subst hv
      have HP := Lib.hid (paths_any na nc (fs.map TFile.path) wr hat (by omega) (fun s hs => by
        obtain ⟨f, hf, rfl⟩ := List.mem_map.1 hs
        exact (Hs.out f hf).1))
      rw [hml] at HP ⊢
      clear Hown hown hat
      by_cases hp0 : pathsE (fs.map TFile.path) = 0
      · have hE := Lib.hid (show checkE fs = modesE (fs.drop 0) by unfold checkE; rw [if_neg (fun hh => hh hp0)]; rfl)
        rw [hp0] at HP
        clear hp0
        go_wp2_with fail
        refine HP.out.mono ?_
        rintro e w1 ⟨rfl, hb1⟩
        have hbr1 := below_step hbr hb1
        clear HP hb1 hbr hlt hk
        go_wp2_with fail
        go_loopw [8, 28] (fun _ i wr => ∃ k : Nat, i = .int .i64 k ∧ k ≤ fs.length ∧ Hid (checkE fs = modesE (fs.drop k)) ∧ Below w.heap.size w wr) (fun _ i _ => fs.length - (intOf i).toNat)
        case atStart => exact ⟨0, rfl, Nat.zero_le _, hE, hbr1⟩
        case round =>
          obtain ⟨k, rfl, hk, HE, hbr⟩ := hrel
          clear hbr1 hE
          by_cases hlt : k < fs.length
          · obtain ⟨b, off, rfl, hb, c0, c1, c2⟩ := (H.out.below hbr).get k hlt
            have hE2 := Lib.hid (HE.out.trans (modes_step hlt))
            have hbr1 := hbr.alloc hbr.size (.cells #[.string fs[k].path, .int .i64 fs[k].mode, .string fs[k].data] 101)
            generalize fs[k].path = p at c0 hbr1
            generalize fs[k].mode = m at c1 hbr1 hE2
            generalize fs[k].data = d at c2 hbr1 hE2
            by_cases hm : 0 ≤ m ∧ m ≤ 511
            · have hdm : decide (0 ≤ m ∧ m ≤ 511) = true := decide_eq_true hm
              have hE3 := Lib.hid (hE2.out.trans (if_neg (by omega)))
              by_cases hd : 65536 < d.size
              · have hE4 := Lib.hid (hE3.out.trans (if_pos hd))
                have HM := Lib.hid (fun w1 => mode_any m w1)
                rw [hdm] at HM
                clear hm hdm hE2 hE3
                go_wp2_with fail
                refine (HM.out _).mono ?_
                rintro e w2 ⟨rfl, rfl⟩
                go_wp2_with fail
                go_ret
                exact ⟨ret_int hE4.out.symm, hbr1⟩
              · have hE4 := Lib.hid (hE3.out.trans (if_neg hd))
                have HM := Lib.hid (fun w1 => mode_any m w1)
                rw [hdm] at HM
                clear hm hdm hE2 hE3
                go_wp2_with fail
                refine (HM.out _).mono ?_
                rintro e w2 ⟨rfl, rfl⟩
                go_wp2_with fail
                go_roundw
                case rel => exact ⟨k + 1, by go_num, by omega, hE4, hbr1⟩
                case measure => simp [intOf]; omega
            · have hdm : decide (0 ≤ m ∧ m ≤ 511) = false := decide_eq_false hm
              have hE3 := Lib.hid (hE2.out.trans (if_pos (by omega)))
              have HM := Lib.hid (fun w1 => mode_any m w1)
              rw [hdm] at HM
              clear hm hdm hE2
              go_wp2_with fail
              refine (HM.out _).mono ?_
              rintro e w2 ⟨rfl, rfl⟩
              go_wp2_with fail
              go_ret
              exact ⟨ret_int hE3.out.symm, hbr1⟩
          · have hE2 := Lib.hid (HE.out.trans (modes_end hlt))
            go_wp2_with fail
            go_ret
            exact ⟨ret_int hE2.out.symm, hbr⟩
      · have hE := Lib.hid (show checkE fs = pathsE (fs.map TFile.path) by unfold checkE; rw [if_pos hp0])
        generalize pathsE (fs.map TFile.path) = pe at HP hE hp0
        have hpb : (pe != 0) = true := by rw [bne_iff_ne]; exact hp0
        clear hp0
        go_wp2_with fail
        refine HP.out.mono ?_
        rintro e w1 ⟨rfl, hb1⟩
        have hbr1 := below_step hbr hb1
        go_wp2_with fail
        go_ret
        exact ⟨ret_int hE.out.symm, hbr1⟩
end Go.Proofs.YtmmnaieikfekfaaGreatDoor
