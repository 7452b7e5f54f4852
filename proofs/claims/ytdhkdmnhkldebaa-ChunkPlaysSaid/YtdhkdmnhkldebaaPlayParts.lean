/- Parts of a play: lists of numbers compared, a part cut short. Conditions: sizes. -/
import Derived.Test.YtdhkdmnhkldebaaRefPut
import Derived.Test.YtdhkdmnhkldebaaOpenCalls
namespace Go.Proofs.Ytdhkdmnhkldebaa
open Go.RowKit
set_option linter.unusedVariables false

/-- a slice value that reads as the numbers l -/
def ReadsNums (w : World) (v : Value) (l : List Nat) : Prop := ∃ ad cap, v = .slice ad l.length cap ∧ l.length ≤ cap ∧ cap ≤ maxLen ∧ (l = [] ∨ ∃ b, ad = some ⟨b, 0, none⟩ ∧ b < w.heap.size ∧ ∀ k (hk : k < l.length), w.cell? ⟨b, k, none⟩ = some (.int .i64 (l[k] : Nat)))
theorem readsNums_own {w : World} {base : Nat} {e : TypeId} {v : Value} {l : List Nat} (h : w.ownsRow base e 1 v l.length (numCells l)) : ReadsNums w v l := by
  obtain ⟨ad, cap, hv, hcap, hmax, hlen, hnil, hsome⟩ := row_open h
  refine ⟨ad, cap, hv, hcap, hmax, ?_⟩
  cases ad with
  | none => left; exact List.length_eq_zero_iff.1 (hnil rfl)
  | some x =>
    obtain ⟨g, rfl, hg1, hg2, hcell⟩ := hsome x rfl
    right
    refine ⟨g, rfl, hg2, fun k hk => ?_⟩
    rw [hcell k hk, numCells, List.getElem?_map, List.getElem?_eq_getElem hk]
    rfl
theorem readsNums_below {w w' : World} {v : Value} {l : List Nat} (h : ReadsNums w v l) (hb : Below w.heap.size w w') : ReadsNums w' v l := by
  obtain ⟨ad, cap, hv, hcap, hmax, h⟩ := h
  refine ⟨ad, cap, hv, hcap, hmax, ?_⟩
  rcases h with h | ⟨b, h1, h2, h3⟩
  · exact Or.inl h
  · exact Or.inr ⟨b, h1, Nat.lt_of_lt_of_le h2 hb.size, fun k hk => by rw [hb.cell (p := ⟨b, k, none⟩) h2]; exact h3 k hk⟩
set_option maxRecDepth 100000 in
theorem ints_any (v1 v2 : Value) (l : List Nat) (w : World) (h1 : ReadsNums w v1 l) (h2 : ReadsNums w v2 l) (hl : l.length ≤ 4096) :
    Calls Try.prog 26 #[v1, v2] w fun e w' => e = .returned (.bool true) ∧ ∃ n, w' = w.drewN n := by
  obtain ⟨ad, cap, rfl, hc1, hc2, g1⟩ := h1
  obtain ⟨ad2, cap2, rfl, hc3, hc4, g2⟩ := h2
  have hne : ((l.length : Int) != (l.length : Int)) = false := by simp
  have G1 := Lib.hid g1
  have G2 := Lib.hid g2
  unfold maxLen at hc2 hc4
  clear g1 g2
  go_enter Try.func26, Try.ntmps26
  go_wp2_with fail
  go_loopw [5] (fun i wr => ∃ k n : Nat, k ≤ l.length ∧ i = .int .i64 k ∧ wr = w.drewN n) (fun i _ => l.length - (intOf i).toNat)
  case atStart => exact ⟨0, 0, Nat.zero_le _, rfl, rfl⟩
  case round =>
    obtain ⟨k, n, hk, rfl, rfl⟩ := hrel
    by_cases hlt : k < l.length
    · obtain ⟨b1, rfl, hb1, c1⟩ : ∃ b, ad = some ⟨b, 0, none⟩ ∧ b < w.heap.size ∧ w.cell? ⟨b, k, none⟩ = some (.int .i64 (l[k] : Nat)) := by
        rcases G1.out with h | ⟨b, h1, h2, h3⟩
        · rw [h] at hlt; simp at hlt
        · exact ⟨b, h1, h2, h3 k hlt⟩
      obtain ⟨b2, rfl, hb2, c2⟩ : ∃ b, ad2 = some ⟨b, 0, none⟩ ∧ b < w.heap.size ∧ w.cell? ⟨b, k, none⟩ = some (.int .i64 (l[k] : Nat)) := by
        rcases G2.out with h | ⟨b, h1, h2, h3⟩
        · rw [h] at hlt; simp at hlt
        · exact ⟨b, h1, h2, h3 k hlt⟩
      generalize l[k] = x at c1 c2
      have hx : ((x : Int) != (x : Int)) = false := by simp
      have hki : (0 : Int) ≤ (k : Int) := by omega
      have hkl : (k : Int) < (l.length : Int) := by omega
      go_wp2_with fail
      go_quiet (fail)
      go_wp2_with fail
      go_roundw
      case rel => exact ⟨k + 1, _, hlt, by go_num, rfl⟩
      case measure => simp [intOf]; omega
    · obtain rfl : k = l.length := by omega
      go_wp2_with fail
      go_ret
      exact ⟨rfl, _, rfl⟩

def cut300 (t : ByteArray) : ByteArray := if 300 < t.size then t.extract 0 300 else t
theorem cut300_size (t : ByteArray) : (cut300 t).size ≤ 300 := by
  unfold cut300
  split
  · rw [ByteArray.size_extract]; omega
  · omega
set_option maxRecDepth 100000 in
theorem short_any (a o : Int) (t : ByteArray) (w : World) (ht : t.size ≤ maxLen) :
    Calls Try.prog 24 #[.agg #[.int .i64 a, .int .i64 o, .string t]] w fun e w' => e = .returned (.agg #[.int .i64 a, .int .i64 o, .string (cut300 t)]) ∧ Below w.heap.size w w' := by
  unfold maxLen at ht
  unfold cut300
  by_cases h : 300 < t.size
  · have h2 : (300 : Int) ≤ (t.size : Int) := by omega
    rw [if_pos h]
    go_enter Try.func24, Try.ntmps24
    go_wp2_with fail
    exact bodyPost_ret (v := .agg #[.int .i64 a, .int .i64 o, .string (t.extract 0 300)]) (by simp [results, Try.results24, go_sem]) rfl ⟨rfl, ((Below.refl _ _).alloc (Nat.le_refl _) _).alloc (by simp) _⟩
  · rw [if_neg h]
    go_enter Try.func24, Try.ntmps24
    go_wp2_with fail
    exact bodyPost_ret (v := .agg #[.int .i64 a, .int .i64 o, .string t]) (by simp [results, Try.results24, go_sem]) rfl ⟨rfl, ((Below.refl _ _).alloc (Nat.le_refl _) _).alloc (by simp) _⟩
end Go.Proofs.Ytdhkdmnhkldebaa
