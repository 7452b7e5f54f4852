/- The names of a device's files. Conditions: sizes. -/
import Derived.Test.YtaeklleogniimaaGreatDoorLive
namespace Go.Proofs.YtaeklleogniimaaGreatDoor
open Go.RowKit
set_option linter.unusedVariables false

theorem info_strD : (Tryz.prog.info? 9).map (fun i => (i.zero, i.size, i.bytes)) = some (some (.string ByteArray.empty), 1, 16) := by kernel_rfl
def strVals (l : List ByteArray) : List Value := l.map fun s => .string s
def namesOf (l : List DFile) : List ByteArray := l.map DFile.name
theorem namesOf_take {l : List DFile} {k : Nat} (hk : k < l.length) : strVals (namesOf (l.take (k + 1))) = strVals (namesOf (l.take k)) ++ [.string l[k].name] := by
  unfold strVals namesOf
  rw [List.take_succ_eq_append_getElem hk, List.map_append, List.map_append]
  rfl

theorem list_off (b : Nat) (S : DSt) (w : World) (h : DiskAt w b S) (ho : S.off = true) : Calls Tryz.prog 29 #[.pointer (some ⟨b, 0, none⟩)] w fun e w' => e = .returned (.tuple #[.slice none 0 0, .int .i64 14]) ∧ w = w' := by
  have hr := Lib.hid (ready_any b S w h)
  rw [ho] at hr
  clear h
  go_enter Tryz.func29, Tryz.ntmps29
  go_wp2_with fail
  refine hr.out.mono ?_
  rintro e w' ⟨rfl, rfl⟩
  go_wp2_with fail
  go_ret2
  exact ⟨rfl, rfl⟩
set_option maxRecDepth 100000 in
set_option maxHeartbeats 800000 in
theorem list_ok (b : Nat) (S : DSt) (w : World) (h : DiskAt w b S) (ho : S.off = false) (hl : S.files.length ≤ 1000000000) :
    Calls Tryz.prog 29 #[.pointer (some ⟨b, 0, none⟩)] w fun e w' => ∃ v, e = .returned (.tuple #[v, .int .i64 0]) ∧ w'.ownsRow w.heap.size 9 1 v S.files.length (strVals (namesOf S.files)) ∧ Below w.heap.size w w' := by
  obtain ⟨ad, cap, hv⟩ := row_shape h.frow
  have c0 : w.cell? ⟨b, 0, none⟩ = some (.slice ad S.files.length cap) := by rw [← hv]; exact h.blk.cell 0
  have HR := Lib.hid (ready_on b S w h ho)
  have H := Lib.hid h
  have Hv := Lib.hid hv
  clear h hv
  go_enter Tryz.func29, Tryz.ntmps29
  go_wp2_with fail
  refine HR.out.mono ?_
  rintro e w1 ⟨rfl, rfl⟩
  clear HR
  go_wp2_with fail
  clear c0
  go_loopw [5, 18] (fun u i wr => ∃ k : Nat, k ≤ S.files.length ∧ i = .int .i64 k ∧ Hid (wr.ownsRow w.heap.size 9 1 u k (strVals (namesOf (S.files.take k)))) ∧ Hid (Below w.heap.size w wr)) (fun _ i _ => S.files.length - (intOf i).toNat)
  case atStart => exact ⟨0, Nat.zero_le _, rfl, Lib.hid (World.ownsRow_nil _ _ _ _), Lib.hid (Below.refl _ _)⟩
  case round =>
    obtain ⟨k, hk, rfl, HO, HB⟩ := hrel
    by_cases hlt : k < S.files.length
    · obtain ⟨g, cap', hv', hgl, hc⟩ := fptrs_at H.out k hlt
      rw [Hv.out] at hv'
      injection hv' with hv1 hv3 hv2
      clear hv3
      subst hv1; subst hv2
      have hF := H.out.fat S.files[k] (List.getElem_mem hlt)
      have hst := Lib.hid (namesOf_take hlt)
      generalize S.files[k] = M at hc hF hst
      have d1 : wr.cell? ⟨M.g, 1, none⟩ = some (.string M.name) := (HB.out.cell (p := ⟨M.g, 1, none⟩) hF.blk.lt).trans (hF.blk.cell 1)
      have hc' := (HB.out.cell (p := ⟨g, k, none⟩) hgl).trans hc
      obtain ⟨ua, uc, hu⟩ := row_shape HO.out
      subst hu
      have hown := HO.out
      clear hF hc HO
      go_wp2_with (at_builtin; refine append_one rfl _ _ 68 rfl w.heap.size 9 1 16 Tryz.underlying68 _ info_strD rfl (by decide) _ _ _ rfl hown [.string M.name] rfl rfl (by simp [Value.oneCell']) ?c1 ?c2 ?c3 ?_)
      case c1 => unfold maxLen; omega
      case c2 => omega
      case c3 => exact HB.out.size
      intro v' w1 hown3 hb3
      rw [← hst.out] at hown3
      have HO4 := Lib.hid hown3
      have HB4 := Lib.hid (HB.out.trans hb3)
      clear hown3 hown hb3 d1 hc'
      go_wp2_with fail
      go_roundw
      case rel => exact ⟨k + 1, hlt, by go_num, HO4, HB4⟩
      case measure => simp [intOf]; omega
    · obtain rfl : k = S.files.length := by omega
      have hown := HO.out
      rw [List.take_length] at hown
      have HO := Lib.hid hown
      clear hown
      go_wp2_with fail
      go_ret2
      exact ⟨_, rfl, HO.out, HB.out⟩
end Go.Proofs.YtaeklleogniimaaGreatDoor
