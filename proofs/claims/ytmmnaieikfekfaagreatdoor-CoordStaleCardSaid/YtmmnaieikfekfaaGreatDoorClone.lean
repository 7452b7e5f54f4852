/- The walk of slices.Clone at []api.File. Condition: at most 10^6 files. -/
import Derived.Test.YtmmnaieikfekfaaGreatDoorFiles
import Derived.Test.YtmmnaieikfekfaaGreatDoorRows
import Derived.Deep.AppendLies
import Derived.Lib.SliceRun
namespace Go.Proofs.YtmmnaieikfekfaaGreatDoor
open Go.RowKit
set_option linter.unusedVariables false

theorem info_file : (Tryz.prog.info? 101).map (fun i => (i.zero, i.size, i.bytes)) = some (some (.agg #[.string ⟨#[]⟩, .int .i64 0, .string ⟨#[]⟩]), 3, 40) := by kernel_rfl
theorem empty_rowF (w : World) (T : TypeId) (sz : Nat) : (w.alloc (.cells #[] T)).ownsRow w.heap.size T sz (.slice (some ⟨w.heap.size, 0, none⟩) 0 0) 0 [] := by
  exact ⟨by simp, Or.inr ⟨w.heap.size, 0, #[], rfl, Nat.le_refl _, heap_alloc_new w _, Nat.le_refl _, Nat.zero_le _, by simp, by simp⟩⟩
theorem tfsVals_one (l : List TFile) : ∀ v ∈ tfsVals l, v.oneCell' = true := by
  intro v hv
  obtain ⟨p, _, hp⟩ := List.mem_flatMap.1 hv
  simp only [tfV, List.mem_cons, List.not_mem_nil, or_false] at hp
  rcases hp with rfl | rfl | rfl <;> rfl
set_option maxRecDepth 100000 in
theorem cloneFiles_any (v : Value) (l : List TFile) (base : Nat) (w : World) (hown : w.ownsRow base 101 3 v l.length (tfsVals l)) (hn : l.length ≤ 1000000) :
    Calls Tryz.prog 36 #[v] w fun e w' => ∃ ad cap, e = .returned (.slice ad l.length cap) ∧ w'.ownsRow w.heap.size 101 3 (.slice ad l.length cap) l.length (tfsVals l) ∧ Below w.heap.size w w' := by
  have hq := fun w a l c => Lib.run_eql_slice_nil (P := Tryz.prog) w 31 101 a l c 0 0 Tryz.underlying31
  rcases hown.2 with ⟨rfl, h0⟩ | ⟨g, cap, cur, rfl, _, hb, hnc, hcm, hcs, hct⟩
  · obtain rfl := List.eq_nil_of_length_eq_zero h0
    clear hown hn h0
    go_enter Tryz.func36, Tryz.ntmps36
    go_wp2_with fail
    go_ret
    exact ⟨_, _, rfl, World.ownsRow_nil _ _ _ _, Below.refl _ _⟩
  · obtain ⟨i0, hi, hz0, hz1, hz2⟩ := info_parts info_file
    have hE := empty_rowF w 101 3
    have hnews : ∀ j u, (tfsVals l)[j]? = some u → (w.alloc (.cells #[] 101)).cell? ((⟨g, 0, none⟩ : Addr).add j) = some u := fun j u hj => by
      have hgl := (hown.lt g rfl).2
      have hj2 : j < l.length * 3 := by
        rcases Nat.lt_or_ge j (l.length * 3) with h | h
        · exact h
        · rw [List.getElem?_eq_none (by rw [tfsVals_length]; exact h)] at hj; cases hj
      rw [addr_add, (((Below.refl w.heap.size w).alloc (Nat.le_refl _) _).cell (p := ⟨g, j, none⟩) hgl), hown.cellAt j hj2]
      exact hj
    have HE := Lib.hid hE
    have Hnews := Lib.hid hnews
    have HA := Lib.hid ((Below.refl w.heap.size w).alloc (Nat.le_refl _) (.cells #[] 101))
    clear hE hnews hown hb hcs hct
    go_enter Tryz.func36, Tryz.ntmps36
    go_wp2_with (at_builtin; refine wpList_append_own_at _ rfl _ _ 31 rfl w.heap.size 101 i0 _ 3 40 Tryz.underlying31 hi hz0 hz1 hz2 rfl (by decide) _ _ _ rfl HE.out ⟨g, 0, none⟩ l.length cap (tfsVals l) rfl (by rw [tfsVals_length]) Hnews.out (tfsVals_one l) (by unfold maxLen; omega) (by omega) (by simp) ?_; intro v' w' hown' hgrow _ hat)
    go_ret
    have := hown'
    rw [Nat.zero_add, List.nil_append] at this
    obtain ⟨ad, cap2, rfl⟩ := row_shape this
    exact ⟨ad, cap2, rfl, this, HA.out.grown hgrow (by simp) (fun k hk => by cases hk; exact Nat.le_refl _)⟩
end Go.Proofs.YtmmnaieikfekfaaGreatDoor
