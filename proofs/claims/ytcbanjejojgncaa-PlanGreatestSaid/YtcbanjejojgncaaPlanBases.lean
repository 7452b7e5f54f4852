/- The walk of PlanBases: which generation is the basis for another one. No condition. -/
import Derived.Test.YtcbanjejojgncaaPlan
namespace Go.Proofs.Ytcbanjejojgncaa
open Go.RowKit

def BasisIs (floor top gen best g : Int) : Prop := floor ≤ g ∧ g < top ∧ g < gen ∧ (best = gen ∨ best < g)
instance (floor top gen best g : Int) : Decidable (BasisIs floor top gen best g) := by unfold BasisIs; exact inferInstance
def basisStep (floor top gen best g : Int) : Int := if BasisIs floor top gen best g then g else best
def basis (floor top gen : Int) (l : List Int) : Int := l.foldl (basisStep floor top gen) gen
theorem basis_snoc (floor top gen : Int) (l : List Int) (g : Int) : basis floor top gen (l ++ [g]) = basisStep floor top gen (basis floor top gen l) g := by unfold basis; rw [List.foldl_append]; rfl
theorem basis_yes {floor top gen b g : Int} {l : List Int} {k : Nat} {hk : k < l.length} (hb : b = basis floor top gen (l.take k)) (hg : g = l[k]) (h : BasisIs floor top gen b g) : g = basis floor top gen (l.take (k + 1)) := by
  rw [List.take_succ_eq_append_getElem hk, basis_snoc, ← hb, ← hg, basisStep, if_pos h]
theorem basis_no {floor top gen b g : Int} {l : List Int} {k : Nat} {hk : k < l.length} (hb : b = basis floor top gen (l.take k)) (hg : g = l[k]) (h : ¬ BasisIs floor top gen b g) : b = basis floor top gen (l.take (k + 1)) := by
  rw [List.take_succ_eq_append_getElem hk, basis_snoc, ← hb, ← hg, basisStep, if_neg h]

theorem intsAt_cell {w : World} {ad : Option Addr} {l : List Int} (h : IntsAt .i64 w ad l) (k : Nat) (hk : k < l.length) : ∃ b off, ad = some ⟨b, off, none⟩ ∧ w.cell? ⟨b, off + k, none⟩ = some (.int .i64 l[k]) := by
  rcases h with rfl | ⟨b, off, h1, _, h3⟩
  · simp at hk
  · exact ⟨b, off, h1, h3 k hk⟩
theorem intsAt_take {k : IntKind} {w : World} {ad : Option Addr} {l : List Int} (h : IntsAt k w ad l) (n : Nat) : IntsAt k w ad (l.take n) := by
  rcases h with rfl | ⟨b, off, h1, h2, h3⟩
  · left; simp
  · right
    refine ⟨b, off, h1, h2, fun i hi => ?_⟩
    rw [List.length_take] at hi
    rw [h3 i (by omega), List.getElem_take]

set_option maxHeartbeats 1000000 in
theorem basis_any (w : World) (ad : Option Addr) (cap : Nat) (l : List Int) (floor top gen : Int) (h : IntsAt .i64 w ad l) (hl : l.length ≤ 1000000) :
    Calls Try.prog 16 #[.slice ad l.length cap, .int .i64 floor, .int .i64 top, .int .i64 gen] w fun e w' => e = .returned (.int .i64 (basis floor top gen l)) ∧ w = w' := by
  have H := Lib.hid h
  clear h
  go_enter Try.func16, Try.ntmps16
  go_wp2
  go_loop [9, 15] (fun b i => ∃ (k : Nat) (x : Int), k ≤ l.length ∧ i = .int .i64 k ∧ b = .int .i64 x ∧ Hid (x = basis floor top gen (l.take k))) (fun _ i => l.length - (intOf i).toNat)
  case atStart => exact ⟨0, gen, Nat.zero_le _, rfl, rfl, Lib.hid rfl⟩
  case round =>
    obtain ⟨k, x, hk, rfl, rfl, Hx⟩ := hrel
    by_cases hlt : k < l.length
    · obtain ⟨b, off, rfl, hc⟩ := intsAt_cell H.out k hlt
      obtain ⟨g, hg⟩ : ∃ g, g = l[k] := ⟨_, rfl⟩
      rw [← hg] at hc
      have Hg := Lib.hid hg
      clear hg
      by_cases hP : BasisIs floor top gen x g
      · have HP := Lib.hid hP
        clear hP
        go_wp2
        all_goals first
          | (exfalso; have hx := HP.out; unfold BasisIs at hx; simp at *; omega)
          | (go_round
             case rel => exact ⟨k + 1, g, by omega, by go_num, rfl, Lib.hid (basis_yes Hx.out Hg.out HP.out)⟩
             case measure => simp [intOf]; omega)
      · have HP := Lib.hid hP
        clear hP
        go_wp2
        all_goals first
          | (exfalso; apply HP.out; unfold BasisIs; simp at *; omega)
          | (go_round
             case rel => exact ⟨k + 1, x, by omega, by go_num, rfl, Lib.hid (basis_no Hx.out Hg.out HP.out)⟩
             case measure => simp [intOf]; omega)
    · have hk' : k = l.length := by omega
      subst hk'
      go_wp2
      go_ret
      exact ⟨ret_int (by rw [Hx.out, List.take_length]), rfl⟩

set_option maxRecDepth 100000 in
set_option maxHeartbeats 1000000 in
theorem planBases_walk (a : Option Addr) (len cap : Nat) (zs : List Int) (floor top gen : Int) (w : World) (h : IsInts .i64 w a len cap zs) (_h1 : (Lit.int .i64 floor).wf = true) (_h2 : (Lit.int .i64 top).wf = true) (_h3 : (Lit.int .i64 gen).wf = true) :
    Calls Try.prog 6 #[.slice a len cap, .int .i64 floor, .int .i64 top, .int .i64 gen] w fun e w' => e = .returned (.bool true) ∧ Below w.heap.size w w' := by
  obtain ⟨hat, hlen, _, hmax, hcap, hcm⟩ := isInts_at h
  unfold maxLen at hmax hcm
  have Hat := Lib.hid hat
  have Hlen := Lib.hid hlen
  clear h hat hlen
  go_enter Try.func6, Try.ntmps6
  go_upto_if 14 with (fail)
  go_cut [0] (fun v wx => ∃ n : Nat, v = .slice a n cap ∧ n ≤ 60 ∧ n ≤ len ∧ w = wx)
  case first =>
    by_cases h : len ≤ 60
    · go_wp2
      go_meet
      exact ⟨_, rfl, h, Nat.le_refl _, rfl⟩
    · go_wp2
      go_meet
      exact ⟨60, rfl, by omega, by omega, rfl⟩
  case rest =>
    obtain ⟨n, rfl, hn, hnl, rfl⟩ := hcut
    obtain ⟨l, hl, hll⟩ : ∃ l : List Int, l = (zs.take len).take n ∧ l.length = n := ⟨_, rfl, by rw [List.length_take, Hlen.out]; omega⟩
    have H := Lib.hid (show IntsAt .i64 w a l by rw [hl]; exact intsAt_take Hat.out n)
    clear hl Hat Hlen
    subst hll
    go_wp2
    go_loop [9, 10] (fun b i => ∃ (k : Nat) (x : Int), k ≤ l.length ∧ i = .int .i64 k ∧ b = .int .i64 x ∧ Hid (x = basis floor top gen (l.take k))) (fun _ i => l.length - (intOf i).toNat)
    case atStart => exact ⟨0, gen, Nat.zero_le _, rfl, rfl, Lib.hid rfl⟩
    case round =>
      obtain ⟨k, x, hk, rfl, rfl, Hx⟩ := hrel
      by_cases hlt : k < l.length
      · obtain ⟨b, off, rfl, hc⟩ := intsAt_cell H.out k hlt
        obtain ⟨g, hg⟩ : ∃ g, g = l[k] := ⟨_, rfl⟩
        rw [← hg] at hc
        have Hg := Lib.hid hg
        clear hg
        by_cases hP : BasisIs floor top gen x g
        · have HP := Lib.hid hP
          clear hP
          go_wp2
          all_goals first
            | (exfalso; have hx := HP.out; unfold BasisIs at hx; simp at *; omega)
            | (go_round
               case rel => exact ⟨k + 1, g, by omega, by go_num, rfl, Lib.hid (basis_yes Hx.out Hg.out HP.out)⟩
               case measure => simp [intOf]; omega)
        · have HP := Lib.hid hP
          clear hP
          go_wp2
          all_goals first
            | (exfalso; apply HP.out; unfold BasisIs; simp at *; omega)
            | (go_round
               case rel => exact ⟨k + 1, x, by omega, by go_num, rfl, Lib.hid (basis_no Hx.out Hg.out HP.out)⟩
               case measure => simp [intOf]; omega)
      · have hk' : k = l.length := by omega
        subst hk'
        have hx : x = basis floor top gen l := by rw [Hx.out, List.take_length]
        have Hxx := Lib.hid hx
        clear hx
        go_wp2_with fail
        refine (basis_any w a cap l floor top gen H.out (by omega)).mono ?_
        rintro e wx ⟨rfl, rfl⟩
        rw [← Hxx.out]
        go_wp2_with fail
        refine (awake_any _).mono ?_
        rintro e w1 ⟨rfl, hb1⟩
        go_wp2_with fail
        go_ret
        exact ⟨rfl, hb1⟩
end Go.Proofs.Ytcbanjejojgncaa
