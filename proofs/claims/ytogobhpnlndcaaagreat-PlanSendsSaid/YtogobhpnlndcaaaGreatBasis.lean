/- plan.Basis: which generation is the basis for another one. No condition. -/
import Derived.Test.YtogobhpnlndcaaaGreatPlan
namespace Go.Proofs.YtogobhpnlndcaaaGreat
open Go.RowKit

def BasisIs (floor top gen best g : Int) : Prop := floor ≤ g ∧ g < top ∧ g < gen ∧ (best = gen ∨ best < g)
instance (floor top gen best g : Int) : Decidable (BasisIs floor top gen best g) := by unfold BasisIs; exact inferInstance
def basisStep (floor top gen best g : Int) : Int := if BasisIs floor top gen best g then g else best
def basis (floor top gen : Int) (l : List Int) : Int := l.foldl (basisStep floor top gen) gen
theorem basis_snoc (floor top gen : Int) (l : List Int) (g : Int) : basis floor top gen (l ++ [g]) = basisStep floor top gen (basis floor top gen l) g := by unfold basis; rw [List.foldl_append]; rfl
theorem basis_yes {floor top gen b g : Int} {l : List Int} {k : Nat} {hk : k < l.length} (hb : b = basis floor top gen (l.take k)) (hg : g = l[k]) (h : BasisIs floor top gen b g) : g = basis floor top gen (l.take (k + 1)) := by
  rw [List.take_succ_eq_append_getElem hk, basis_snoc, ← hb, ← hg, basisStep, if_pos h]
theorem basis_no {floor top gen b g : Int} {l : List Int} {k : Nat} {hk : k < l.length} (hb : b = basis floor top gen (l.take k)) (hg : g = l[k]) (h : ¬ BasisIs floor top gen b g) : b = basis floor top gen (l.take (k + 1)) := by
  rw [List.take_succ_eq_append_getElem hk, basis_snoc, ← hb, ← hg, basisStep, if_neg h]

theorem intsAt_cell {w : World} {ad : Option Addr} {l : List Int} (h : IntsAt .i64 w ad l) (k : Nat) (hk : k < l.length) : ∃ b off, ad = some ⟨b, off, none⟩ ∧ w.cell? ⟨b, off + k, none⟩ = some (.int .i64 l[k]) := by
  rcases h with rfl | ⟨b, off, h1, _, h3⟩
  · simp at hk
  · exact ⟨b, off, h1, h3 k hk⟩
theorem intsAt_take {k : IntKind} {w : World} {ad : Option Addr} {l : List Int} (h : IntsAt k w ad l) (n : Nat) : IntsAt k w ad (l.take n) := by
  rcases h with rfl | ⟨b, off, h1, h2, h3⟩
  · left; simp
  · right
    refine ⟨b, off, h1, h2, fun i hi => ?_⟩
    rw [List.length_take] at hi
    rw [h3 i (by omega), List.getElem_take]

set_option maxHeartbeats 1000000 in
theorem basis_any (w : World) (ad : Option Addr) (cap : Nat) (l : List Int) (floor top gen : Int) (h : IntsAt .i64 w ad l) (hl : l.length ≤ 1000000) :
    Calls Tryz.prog 32 #[.slice ad l.length cap, .int .i64 floor, .int .i64 top, .int .i64 gen] w fun e w' => e = .returned (.int .i64 (basis floor top gen l)) ∧ w = w' := by
  have H := Lib.hid h
  clear h
  go_enter Tryz.func32, Tryz.ntmps32
  go_wp2
  go_loop [9, 15] (fun b i => ∃ (k : Nat) (x : Int), k ≤ l.length ∧ i = .int .i64 k ∧ b = .int .i64 x ∧ Hid (x = basis floor top gen (l.take k))) (fun _ i => l.length - (intOf i).toNat)
  case atStart => exact ⟨0, gen, Nat.zero_le _, rfl, rfl, Lib.hid rfl⟩
  case round =>
    obtain ⟨k, x, hk, rfl, rfl, Hx⟩ := hrel
    by_cases hlt : k < l.length
    · obtain ⟨b, off, rfl, hc⟩ := intsAt_cell H.out k hlt
      obtain ⟨g, hg⟩ : ∃ g, g = l[k] := ⟨_, rfl⟩
      rw [← hg] at hc
      have Hg := Lib.hid hg
      clear hg
      by_cases hP : BasisIs floor top gen x g
      · have HP := Lib.hid hP
        clear hP
        go_wp2
        all_goals first
          | (exfalso; have hx := HP.out; unfold BasisIs at hx; simp at *; omega)
          | (go_round
             case rel => exact ⟨k + 1, g, by omega, by go_num, rfl, Lib.hid (basis_yes Hx.out Hg.out HP.out)⟩
             case measure => simp [intOf]; omega)
      · have HP := Lib.hid hP
        clear hP
        go_wp2
        all_goals first
          | (exfalso; apply HP.out; unfold BasisIs; simp at *; omega)
          | (go_round
             case rel => exact ⟨k + 1, x, by omega, by go_num, rfl, Lib.hid (basis_no Hx.out Hg.out HP.out)⟩
             case measure => simp [intOf]; omega)
    · have hk' : k = l.length := by omega
      subst hk'
      go_wp2
      go_ret
      exact ⟨ret_int (by rw [Hx.out, List.take_length]), rfl⟩

theorem basis_in (floor top gen : Int) (l : List Int) : basis floor top gen l = gen ∨ (floor ≤ basis floor top gen l ∧ basis floor top gen l < top ∧ basis floor top gen l < gen) := by
  unfold basis
  have key : ∀ (l : List Int) (b : Int), (b = gen ∨ (floor ≤ b ∧ b < top ∧ b < gen)) → (l.foldl (basisStep floor top gen) b = gen ∨ (floor ≤ l.foldl (basisStep floor top gen) b ∧ l.foldl (basisStep floor top gen) b < top ∧ l.foldl (basisStep floor top gen) b < gen)) := by
    intro l
    induction l with
    | nil => intro b h; exact h
    | cons x l ih =>
      intro b h
      rw [List.foldl_cons]
      apply ih
      unfold basisStep
      by_cases hx : BasisIs floor top gen b x
      · rw [if_pos hx]
        exact Or.inr ⟨hx.1, hx.2.1, hx.2.2.1⟩
      · rw [if_neg hx]; exact h
  exact key l gen (Or.inl rfl)
end Go.Proofs.YtogobhpnlndcaaaGreat
