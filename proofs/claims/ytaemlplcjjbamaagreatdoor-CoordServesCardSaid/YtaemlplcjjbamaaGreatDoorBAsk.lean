/- The walks of a coordinator's mark. Condition: the vault has told how far it is. The walks of a coordinator's goal. Condition: the vault has told how far it is. The walks of a coordinator's serve: nothing, that a generation is chosen, that one is to be accepted. Condition: the vault has told how far it is. append(a, b...) of two rows of the call's own, of any element type: a law for a list of operations, and one for a step in a drawn region. Conditions: the sizes. The walk of the law's fresh: a world with a coordinator that begins. No condition. The walks of a coordinator's end, right, Ask, Tak -/
import Derived.Test.YtaemlplcjjbamaaGreatDoorBCGot
import Derived.Test.YtaemlplcjjbamaaGreatDoorBTick
import Derived.Lib.MinMax
import Derived.Test.YtaemlplcjjbamaaGreatDoorBHeld
import Derived.Maps.AppendAt
import Derived.Laws.OwnMore
import Derived.Test.YtaemlplcjjbamaaGreatDoorBKn
namespace Go.Proofs.YtaemlplcjjbamaaGreatDoor
open Go Go.RowKit
set_option linter.unusedVariables false
/-- a chosen generation's mark -/
def mkF (l : List Ent) (g : Int) : Option ByteArray := (l.find? fun x => x.gen == g).map (·.mark)
theorem mkF_some {l : List Ent} {g : Int} {k : Nat} {x : Ent} (hx : l[k]? = some x) (hg : x.gen = g) (h : ∀ i, i < k → ∀ y, l[i]? = some y → y.gen ≠ g) : mkF l g = some x.mark := by
  induction l generalizing k with
  | nil => cases hx
  | cons y l ih =>
    unfold mkF
    cases k with
    | zero =>
      simp at hx
      subst hx
      rw [List.find?_cons_of_pos (by simpa using hg)]
      rfl
    | succ k =>
      have h0 := h 0 (by omega) y rfl
      rw [List.find?_cons_of_neg (by simpa using h0)]
      exact ih (by simpa using hx) (fun i hi z hz => h (i + 1) (by omega) z (by simpa using hz))
theorem mkF_none {l : List Ent} {g : Int} (h : ∀ i, i < l.length → ∀ y, l[i]? = some y → y.gen ≠ g) : mkF l g = none := by
  unfold mkF
  rw [List.find?_eq_none.2]
  · rfl
  · intro x hx
    obtain ⟨i, hi, rfl⟩ := List.mem_iff_getElem.1 hx
    simpa using h i hi _ (List.getElem?_eq_getElem hi)
theorem entsVals_at3 {l : List Ent} {j : Nat} {x : Ent} (h : l[j]? = some x) : (entsVals l)[j * 3]? = some (.int .i64 x.gen) ∧ (entsVals l)[j * 3 + 1]? = some (.int .i64 x.bal) ∧ (entsVals l)[j * 3 + 2]? = some (.string x.mark) := by
  induction l generalizing j with
  | nil => simp at h
  | cons y l ih =>
    have e : entsVals (y :: l) = [.int .i64 y.gen, .int .i64 y.bal, .string y.mark] ++ entsVals l := rfl
    cases j with
    | zero =>
      simp at h
      subst h
      rw [e]
      exact ⟨rfl, rfl, rfl⟩
    | succ j =>
      have h' : l[j]? = some x := by simpa using h
      have hh := ih h'
      rw [e, List.getElem?_append_right (by simp; omega), List.getElem?_append_right (by simp; omega), List.getElem?_append_right (by simp; omega)]
      simp only [List.length_cons, List.length_nil]
      rw [show (j + 1) * 3 - (0 + 1 + 1 + 1) = j * 3 by omega, show (j + 1) * 3 + 1 - (0 + 1 + 1 + 1) = j * 3 + 1 by omega, show (j + 1) * 3 + 2 - (0 + 1 + 1 + 1) = j * 3 + 2 by omega]
      exact hh
set_option maxRecDepth 100000 in
set_option maxHeartbeats 4000000 in
theorem cmark_any (b B : Nat) (c : CSt) (l : List Ent) (g : Int) (w : World) (h : CoordAt w b c) (hr : w.ownsRow B 102 3 c.chosen l.length (entsVals l)) (hl : l.length ≤ 1000000) :
    Calls Tryz.prog 90 #[.pointer (some ⟨b, 0, none⟩), .int .i64 g] w fun e w' => e = .returned (.tuple #[.string ((mkF l g).getD ⟨#[]⟩), .bool (mkF l g).isSome]) ∧ Below w.heap.size w w' := by
  have hbl := h.1.lt
  have c7 : w.cell? ⟨b, 7, none⟩ = some c.chosen := h.hd 7 (by omega)
  obtain ⟨m, hm⟩ : ∃ m, m = l.length := ⟨_, rfl⟩
  rw [← hm] at hr hl
  obtain ⟨ia, ic, hi⟩ := row_shape hr
  rw [hi] at c7 hr
  have HR := Lib.hid hr
  have Hm := Lib.hid hm
  clear h hr hi hm
  go_enter Tryz.func90, Tryz.ntmps90
  go_wp2_with fail
  go_loopw [13] (fun jv wr => ∃ k : Nat, jv = .int .i64 (k : Int) ∧ k ≤ m ∧ Hid (∀ i, i < k → ∀ y, l[i]? = some y → y.gen ≠ g) ∧ Hid (Below w.heap.size w wr)) (fun jv _ => m - (intOf jv).toNat)
  case atStart => exact ⟨0, rfl, Nat.zero_le _, Lib.hid (fun i hi => absurd hi (Nat.not_lt_zero _)), Lib.hid (Below.refl _ _)⟩
  case round =>
    obtain ⟨k, rfl, hk, HF, HB⟩ := hrel
    clear c7
    by_cases hlt : k < m
    · have HRr := Lib.hid (ownsRow_below HR.out HB.out)
      obtain ⟨gg, cap, hv0, hg2, hg3, hg4, hg6, hg5⟩ := row_some HRr.out (by omega)
      simp only [Value.slice.injEq] at hv0
      obtain ⟨rfl, _, rfl⟩ := hv0
      obtain ⟨x, hx⟩ : ∃ x, l[k]? = some x := ⟨_, List.getElem?_eq_getElem (by have := Hm.out; omega)⟩
      obtain ⟨v1, v2, v3⟩ := entsVals_at3 hx
      have e1 := (hg5 (k * 3) (by omega)).trans v1
      have e2 := (hg5 (k * 3 + 1) (by omega)).trans v2
      have e3 := (hg5 (k * 3 + 2) (by omega)).trans v3
      have Hx := Lib.hid hx
      obtain ⟨xg, xb, xm⟩ := x
      simp only at e1 e2 e3
      have HBa := Lib.hid (HB.out.alloc HB.out.size (.cells #[.int .i64 xg, .int .i64 xb, .string xm] 102))
      clear hg5 v1 v2 v3 hx
      by_cases h1 : xg = g
      · have hb1 : (xg == g) = true := by rw [h1]; simp
        have Hkn := Lib.hid (mkF_some Hx.out h1 HF.out)
        clear h1
        go_wp2_with fail
        go_ret2
        rw [Hkn.out]
        exact ⟨rfl, HBa.out⟩
      · have hb1 : (xg == g) = false := by rw [beq_eq_false_iff_ne]; exact h1
        have H1 := Lib.hid h1
        clear h1
        go_wp2_with fail
        go_roundw
        case rel =>
          refine ⟨k + 1, by go_num, by omega, Lib.hid (fun i hi y hy => ?_), HBa⟩
          by_cases hik : i < k
          · exact HF.out i hik y hy
          · obtain rfl : i = k := by omega
            have := Hx.out
            rw [this] at hy
            injection hy with hy
            subst hy
            exact H1.out
        case measure => simp [intOf]; omega
    · have hkm : k = m := by omega
      subst hkm
      have Hkn := Lib.hid (mkF_none (l := l) (g := g) (by rw [← Hm.out]; exact HF.out))
      go_wp2_with fail
      go_ret2
      rw [Hkn.out]
      exact ⟨rfl, HB.out⟩
end Go.Proofs.YtaemlplcjjbamaaGreatDoor
namespace Go.Proofs.YtaemlplcjjbamaaGreatDoor
open Go Go.RowKit
set_option linter.unusedVariables false
/-- what is being proposed -/
def jobVals (gen bal : Int) (mk img : ByteArray) (ta tf : Nat) (cl old : Bool) : List Value := [.int .i64 gen, .int .i64 bal, .string mk, .string img, .pointer (some ⟨ta, 0, none⟩), .pointer (some ⟨tf, 0, none⟩), .bool cl, .bool old]
set_option maxRecDepth 100000 in
set_option maxHeartbeats 4000000 in
theorem goal_far (b B : Nat) (c : CSt) (ps : List Peer) (l : List Ent) (v : Nat) (w : World) (h : CoordAt w b c) (hp : c.peers = peersVals ps) (hps : ps.length = 9) (hv : v < 9) (ht : (ps[v]'(by omega)).told = true) (htp : (ps[v]'(by omega)).top < c.top) (hf : c.floor ≤ (ps[v]'(by omega)).top)
    (hr : w.ownsRow B 102 3 c.chosen l.length (entsVals l)) (hl : l.length ≤ 1000000) :
    Calls Tryz.prog 58 #[.pointer (some ⟨b, 0, none⟩), .int .i64 (v : Int)] w fun e w' => e = .returned (.tuple #[.int .i64 (ps[v]'(by omega)).top, .string ((mkF l (ps[v]'(by omega)).top).getD ⟨#[]⟩), .bool true, .bool (mkF l (ps[v]'(by omega)).top).isSome]) ∧ Below w.heap.size w w' := by
  obtain ⟨p, hpv⟩ : ∃ p, p = ps[v]'(by omega) := ⟨_, rfl⟩
  rw [← hpv] at ht htp hf ⊢
  have c0 : w.cell? ⟨b, 12 + v * 8, none⟩ = some (.bool true) := by rw [← ht, hpv]; exact h.peer hp v (by omega) 0 (by omega)
  have c2 : w.cell? ⟨b, 12 + v * 8 + 2, none⟩ = some (.int .i64 p.top) := by rw [hpv]; exact h.peer hp v (by omega) 2 (by omega)
  have c6 : w.cell? ⟨b, 6, none⟩ = some (.int .i64 c.top) := h.hd 6 (by omega)
  have c5 : w.cell? ⟨b, 5, none⟩ = some (.int .i64 c.floor) := h.hd 5 (by omega)
  have HM := Lib.hid (fun n => cmark_any b B c l p.top (w.drewN n) (h.drewN n) (ownsRow_below hr (below_drewN (Below.refl _ _) n)) hl)
  have hv1 : (0 : Int) ≤ (v : Int) := by omega
  have hv2 : (v : Int) < 9 := by omega
  have hnf : ¬ p.top < c.floor := by omega
  generalize c.top = ct at c6 htp
  generalize c.floor = cf at c5 hf hnf
  generalize p.top = pt at c2 htp hf hnf HM
  have Hmx := Lib.hid (show max pt cf = pt by omega)
  clear h hp hpv ht hr
  go_enter Tryz.func58, Tryz.ntmps58
  go_wp2
  go_quiet (fail)
  go_wp2
  go_quiet (fail)
  go_wp2_with fail
  rw [Hmx.out]
  refine (HM.out _).mono ?_
  rintro e w1 ⟨rfl, hb1⟩
  have HB1 := Lib.hid (below_step (below_drewN (Below.refl w.heap.size w) _) hb1)
  clear hb1
  go_wp2_with fail
  refine bodyPost_ret (results_tmp4 rfl _ _ _) rfl ⟨rfl, HB1.out⟩
set_option maxRecDepth 100000 in
set_option maxHeartbeats 4000000 in
theorem goal_none (b : Nat) (c : CSt) (ps : List Peer) (v : Nat) (w : World) (h : CoordAt w b c) (hp : c.peers = peersVals ps) (hps : ps.length = 9) (hv : v < 9) (ht : (ps[v]'(by omega)).told = true) (htp : c.top ≤ (ps[v]'(by omega)).top) (hj : c.job = .pointer none) :
    Calls Tryz.prog 58 #[.pointer (some ⟨b, 0, none⟩), .int .i64 (v : Int)] w fun e w' => e = .returned (.tuple #[.int .i64 0, .string ⟨#[]⟩, .bool false, .bool false]) ∧ Below w.heap.size w w' := by
  obtain ⟨p, hpv⟩ : ∃ p, p = ps[v]'(by omega) := ⟨_, rfl⟩
  rw [← hpv] at ht htp
  have c0 : w.cell? ⟨b, 12 + v * 8, none⟩ = some (.bool true) := by rw [← ht, hpv]; exact h.peer hp v (by omega) 0 (by omega)
  have c2 : w.cell? ⟨b, 12 + v * 8 + 2, none⟩ = some (.int .i64 p.top) := by rw [hpv]; exact h.peer hp v (by omega) 2 (by omega)
  have c6 : w.cell? ⟨b, 6, none⟩ = some (.int .i64 c.top) := h.hd 6 (by omega)
  have c84 : w.cell? ⟨b, 84, none⟩ = some (.pointer none) := by have := h.ft 0; rw [← hj]; exact this
  have hv1 : (0 : Int) ≤ (v : Int) := by omega
  have hv2 : (v : Int) < 9 := by omega
  have hnt : ¬ p.top < c.top := by omega
  generalize c.top = ct at c6 htp hnt
  generalize p.top = pt at c2 htp hnt
  clear h hp hpv ht hj
  go_enter Tryz.func58, Tryz.ntmps58
  go_wp2
  go_quiet (fail)
  go_wp2
  refine bodyPost_ret (results_tmp4 rfl _ _ _) rfl ⟨rfl, below_drewN (Below.refl w.heap.size w) _⟩
set_option maxRecDepth 100000 in
set_option maxHeartbeats 4000000 in
theorem goal_job (b j : Nat) (c : CSt) (ps : List Peer) (n v : Nat) (gen bal : Int) (mk img : ByteArray) (ta tf : Nat) (cl old : Bool) (m : List Bool) (w : World) (h : CoordAt w b c) (hp : c.peers = peersVals ps) (hps : ps.length = 9) (hvn : v < n) (hn9 : n ≤ 9) (ht : (ps[v]'(by omega)).told = true) (htp : c.top ≤ (ps[v]'(by omega)).top) (hj : c.job = .pointer (some ⟨j, 0, none⟩))
    (hJ : Blk w j (jobVals gen bal mk img ta tf cl old) 104) (hT : TallyAt w ta n m) (hm : m.getD v false = false) :
    Calls Tryz.prog 58 #[.pointer (some ⟨b, 0, none⟩), .int .i64 (v : Int)] w fun e w' => e = .returned (.tuple #[.int .i64 gen, .string mk, .bool false, .bool true]) ∧ Below w.heap.size w w' := by
  obtain ⟨p, hpv⟩ : ∃ p, p = ps[v]'(by omega) := ⟨_, rfl⟩
  rw [← hpv] at ht htp
  have c0 : w.cell? ⟨b, 12 + v * 8, none⟩ = some (.bool true) := by rw [← ht, hpv]; exact h.peer hp v (by omega) 0 (by omega)
  have c2 : w.cell? ⟨b, 12 + v * 8 + 2, none⟩ = some (.int .i64 p.top) := by rw [hpv]; exact h.peer hp v (by omega) 2 (by omega)
  have c6 : w.cell? ⟨b, 6, none⟩ = some (.int .i64 c.top) := h.hd 6 (by omega)
  have c84 : w.cell? ⟨b, 84, none⟩ = some (.pointer (some ⟨j, 0, none⟩)) := by have := h.ft 0; rw [← hj]; exact this
  have j0 : w.cell? ⟨j, 0, none⟩ = some (.int .i64 gen) := hJ.cell 0
  have j2 : w.cell? ⟨j, 2, none⟩ = some (.string mk) := hJ.cell 2
  have j4 : w.cell? ⟨j, 4, none⟩ = some (.pointer (some ⟨ta, 0, none⟩)) := hJ.cell 4
  have HH := Lib.hid (fun k => (has_in ta n m v (w.drewN k) (hT.drewN k) hvn).mono (fun e w' (hx : e = .returned (.bool (m.getD v false)) ∧ (w.drewN k) = w') => (⟨by rw [hx.1, hm], hx.2⟩ : e = .returned (.bool false) ∧ (w.drewN k) = w')))
  have hv1 : (0 : Int) ≤ (v : Int) := by omega
  have hv2 : (v : Int) < 9 := by omega
  have hnt : ¬ p.top < c.top := by omega
  generalize c.top = ct at c6 htp hnt
  generalize p.top = pt at c2 htp hnt
  clear h hp hpv ht hj hJ hT hm
  go_enter Tryz.func58, Tryz.ntmps58
  go_wp2
  go_quiet (fail)
  go_wp2_with fail
  refine (HH.out _).mono ?_
  rintro e w1 ⟨rfl, rfl⟩
  go_wp2
  go_quiet (fail)
  go_wp2
  refine bodyPost_ret (results_tmp4 rfl _ _ _) rfl ⟨rfl, below_drewN (below_drewN (Below.refl w.heap.size w) _) _⟩
end Go.Proofs.YtaemlplcjjbamaaGreatDoor
namespace Go.Proofs.YtaemlplcjjbamaaGreatDoor
open Go Go.RowKit
set_option linter.unusedVariables false
def chosenM (id v gen : Int) (mk : ByteArray) : MG := { MG.zero with k := 9, fr := id, to_ := v, gen := gen, mrk := mk }
def acceptM (id v bal gen : Int) (mk : ByteArray) : MG := { MG.zero with k := 7, fr := id, to_ := v, bal := bal, gen := gen, mrk := mk }
def msgsV (l : List MG) : List Value := l.flatMap MG.vals
def ServeSays (l : List MG) (w : World) (e : Ending) (w' : World) : Prop := ∃ v, e = .returned v ∧ w'.ownsRow w.heap.size 30 14 v l.length (msgsV l) ∧ Below w.heap.size w w'
theorem msgsV_append (a b : List MG) : msgsV (a ++ b) = msgsV a ++ msgsV b := by unfold msgsV; rw [List.flatMap_append]
theorem MG.vals_one (m : MG) : ∀ u ∈ m.vals, u.oneCell' = true := by
  intro u hu
  unfold MG.vals at hu
  simp only [List.mem_cons, List.not_mem_nil, or_false] at hu
  rcases hu with rfl | rfl | rfl | rfl | rfl | rfl | rfl | rfl | rfl | rfl | rfl | rfl | rfl | rfl
  all_goals rfl
theorem msgsV_one (l : List MG) : ∀ u ∈ msgsV l, u.oneCell' = true := by
  intro u hu
  obtain ⟨m, _, hm⟩ := List.mem_flatMap.1 hu
  exact m.vals_one u hm
theorem row_lit1 {w w2 : World} (o : Obj) (m : MG) (hb : Below w.heap.size w w2) : ((w2.alloc o).alloc (.cells m.vals.toArray 30)).ownsRow w.heap.size 30 14 (.slice (some ⟨w2.heap.size + 1, 0, none⟩) 1 1) 1 (msgsV [m]) := by
  have hs : (w2.alloc o).heap.size = w2.heap.size + 1 := by simp
  have h := World.ownsRow_lit (base := w.heap.size) (e := 30) (size := 14) (w2.alloc o) m.vals.toArray 1 (by rw [hs]; have := hb.size; omega) (by unfold maxLen; omega) (by simp [MG.vals])
  rw [hs] at h
  have e : msgsV [m] = m.vals.toArray.toList := by unfold msgsV; simp
  rw [e]
  exact h
set_option maxRecDepth 100000 in
set_option maxHeartbeats 4000000 in
theorem serve_none (b : Nat) (c : CSt) (ps : List Peer) (v : Nat) (w : World) (h : CoordAt w b c) (hp : c.peers = peersVals ps) (hps : ps.length = 9) (hv : v < 9) (ht : (ps[v]'(by omega)).told = true) (hfl : c.floor ≤ (ps[v]'(by omega)).floor) (htp : c.top ≤ (ps[v]'(by omega)).top) (hj : c.job = .pointer none) :
    Calls Tryz.prog 38 #[.pointer (some ⟨b, 0, none⟩), .int .i64 (v : Int)] w (ServeSays [] w) := by
  have HG := Lib.hid (fun k => goal_none b c ps v (w.drewN k) (h.drewN k) hp hps hv ht htp hj)
  obtain ⟨p, hpv⟩ : ∃ p, p = ps[v]'(by omega) := ⟨_, rfl⟩
  rw [← hpv] at ht hfl
  have c0 : w.cell? ⟨b, 12 + v * 8, none⟩ = some (.bool true) := by rw [← ht, hpv]; exact h.peer hp v (by omega) 0 (by omega)
  have c1 : w.cell? ⟨b, 12 + v * 8 + 1, none⟩ = some (.int .i64 p.floor) := by rw [hpv]; exact h.peer hp v (by omega) 1 (by omega)
  have c5 : w.cell? ⟨b, 5, none⟩ = some (.int .i64 c.floor) := h.hd 5 (by omega)
  have hv1 : (0 : Int) ≤ (v : Int) := by omega
  have hv2 : (v : Int) < 9 := by omega
  have hnt : ¬ p.floor < c.floor := by omega
  generalize c.floor = cf at c5 hnt
  generalize p.floor = pf at c1 hnt
  clear h hp hpv ht hj htp hfl
  go_enter Tryz.func38, Tryz.ntmps38
  go_wp2
  go_quiet (fail)
  go_wp2_with fail
  refine (HG.out _).mono ?_
  rintro e w1 ⟨rfl, hb1⟩
  have HB1 := Lib.hid (below_step (below_drewN (Below.refl w.heap.size w) _) hb1)
  clear hb1
  go_wp2
  go_ret
  exact ⟨_, rfl, World.ownsRow_nil _ _ _ _, HB1.out⟩
set_option maxRecDepth 100000 in
set_option maxHeartbeats 4000000 in
theorem serve_chosen (b B : Nat) (c : CSt) (ps : List Peer) (l : List Ent) (v : Nat) (mk : ByteArray) (w : World) (h : CoordAt w b c) (hp : c.peers = peersVals ps) (hps : ps.length = 9) (hv : v < 9) (ht : (ps[v]'(by omega)).told = true) (hfl : c.floor ≤ (ps[v]'(by omega)).floor) (htp : (ps[v]'(by omega)).top < c.top) (hf : c.floor ≤ (ps[v]'(by omega)).top)
    (hr : w.ownsRow B 102 3 c.chosen l.length (entsVals l)) (hl : l.length ≤ 1000000) (hm : mkF l (ps[v]'(by omega)).top = some mk) (hmk : (ps[v]'(by omega)).mark = mk) (hhas : (ps[v]'(by omega)).has = (ps[v]'(by omega)).top) :
    Calls Tryz.prog 38 #[.pointer (some ⟨b, 0, none⟩), .int .i64 (v : Int)] w (ServeSays [chosenM c.id v (ps[v]'(by omega)).top mk] w) := by
  have HG := Lib.hid (fun k => goal_far b B c ps l v (w.drewN k) (h.drewN k) hp hps hv ht htp hf (ownsRow_below hr (below_drewN (Below.refl _ _) k)) hl)
  have HTo := Lib.hid (fun w' (hb : Below w.heap.size w w') => to_any b c (v : Int) 9 w' (h.below hb))
  obtain ⟨p, hpv⟩ : ∃ p, p = ps[v]'(by omega) := ⟨_, rfl⟩
  rw [← hpv] at ht hfl hm hmk hhas HG ⊢
  have c0 : w.cell? ⟨b, 12 + v * 8, none⟩ = some (.bool true) := by rw [← ht, hpv]; exact h.peer hp v (by omega) 0 (by omega)
  have c1 : w.cell? ⟨b, 12 + v * 8 + 1, none⟩ = some (.int .i64 p.floor) := by rw [hpv]; exact h.peer hp v (by omega) 1 (by omega)
  have HP3 := Lib.hid (fun w' (hb : Below w.heap.size w w') => (show w'.cell? ⟨b, 12 + v * 8 + 3, none⟩ = some (.int .i64 p.top) by rw [← hhas, hpv]; exact (h.below hb).peer hp v (by omega) 3 (by omega)))
  have HP4 := Lib.hid (fun w' (hb : Below w.heap.size w w') => (show w'.cell? ⟨b, 12 + v * 8 + 4, none⟩ = some (.string mk) by rw [← hmk, hpv]; exact (h.below hb).peer hp v (by omega) 4 (by omega)))
  have c5 : w.cell? ⟨b, 5, none⟩ = some (.int .i64 c.floor) := h.hd 5 (by omega)
  have hv1 : (0 : Int) ≤ (v : Int) := by omega
  have hv2 : (v : Int) < 9 := by omega
  have hnt : ¬ p.floor < c.floor := by omega
  rw [hm] at HG
  have Hid' := Lib.hid (rfl : c.id = c.id)
  generalize c.floor = cf at c5 hnt
  generalize p.floor = pf at c1 hnt
  generalize p.top = pt at HG HP3 ⊢
  generalize c.id = ci at HTo Hid' ⊢
  clear h hp hpv ht htp hfl hr hm hmk hhas hf Hid'
  go_enter Tryz.func38, Tryz.ntmps38
  go_wp2
  go_quiet (fail)
  go_wp2_with fail
  refine (HG.out _).mono ?_
  rintro e w1 ⟨rfl, hb1⟩
  have hB1 := below_step (below_drewN (Below.refl w.heap.size w) _) hb1
  have HB1 := Lib.hid hB1
  have p3 := HP3.out w1 hB1
  have p4 := HP4.out w1 hB1
  have HTo1 := Lib.hid (HTo.out w1 hB1)
  clear hb1 hB1 HP3 HP4 HTo HG c0 c1 c5
  go_wp2_with fail
  refine HTo1.out.mono ?_
  rintro e w2 ⟨rfl, hb2⟩
  have HB2 := Lib.hid (below_step HB1.out hb2)
  clear hb2 HB1 HTo1 p3 p4
  unfold msgArr
  go_wp2_with fail
  go_ret
  exact ⟨_, rfl, row_lit1 _ (chosenM ci v pt mk) HB2.out, (HB2.out.alloc HB2.out.size _).alloc (by have := HB2.out.size; simp; omega) _⟩
set_option maxRecDepth 100000 in
set_option maxHeartbeats 4000000 in
theorem serve_accept (b j : Nat) (c : CSt) (ps : List Peer) (n v : Nat) (gen bal : Int) (mk img : ByteArray) (ta tf : Nat) (cl old : Bool) (m : List Bool) (w : World) (h : CoordAt w b c) (hp : c.peers = peersVals ps) (hps : ps.length = 9) (hvn : v < n) (hn9 : n ≤ 9) (ht : (ps[v]'(by omega)).told = true) (hfl : c.floor ≤ (ps[v]'(by omega)).floor) (htp : c.top ≤ (ps[v]'(by omega)).top) (hj : c.job = .pointer (some ⟨j, 0, none⟩))
    (hJ : Blk w j (jobVals gen bal mk img ta tf cl old) 104) (hT : TallyAt w ta n m) (hm : m.getD v false = false) (hmk : (ps[v]'(by omega)).mark = mk) (hhas : (ps[v]'(by omega)).has = gen) :
    Calls Tryz.prog 38 #[.pointer (some ⟨b, 0, none⟩), .int .i64 (v : Int)] w (ServeSays [acceptM c.id v c.ballot gen mk] w) := by
  have HG := Lib.hid (fun k => goal_job b j c ps n v gen bal mk img ta tf cl old m (w.drewN k) (h.drewN k) hp hps hvn hn9 ht htp hj (hJ.drewN k) (hT.drewN k) hm)
  have HTo := Lib.hid (fun w' (hb : Below w.heap.size w w') => to_any b c (v : Int) 7 w' (h.below hb))
  obtain ⟨p, hpv⟩ : ∃ p, p = ps[v]'(by omega) := ⟨_, rfl⟩
  rw [← hpv] at ht hfl hmk hhas
  have c0 : w.cell? ⟨b, 12 + v * 8, none⟩ = some (.bool true) := by rw [← ht, hpv]; exact h.peer hp v (by omega) 0 (by omega)
  have c1 : w.cell? ⟨b, 12 + v * 8 + 1, none⟩ = some (.int .i64 p.floor) := by rw [hpv]; exact h.peer hp v (by omega) 1 (by omega)
  have HP3 := Lib.hid (fun w' (hb : Below w.heap.size w w') => (show w'.cell? ⟨b, 12 + v * 8 + 3, none⟩ = some (.int .i64 gen) by rw [← hhas, hpv]; exact (h.below hb).peer hp v (by omega) 3 (by omega)))
  have HP4 := Lib.hid (fun w' (hb : Below w.heap.size w w') => (show w'.cell? ⟨b, 12 + v * 8 + 4, none⟩ = some (.string mk) by rw [← hmk, hpv]; exact (h.below hb).peer hp v (by omega) 4 (by omega)))
  have c5 : w.cell? ⟨b, 5, none⟩ = some (.int .i64 c.floor) := h.hd 5 (by omega)
  have hv1 : (0 : Int) ≤ (v : Int) := by omega
  have hv2 : (v : Int) < 9 := by omega
  have hnt : ¬ p.floor < c.floor := by omega
  generalize c.floor = cf at c5 hnt
  generalize p.floor = pf at c1 hnt
  generalize c.id = ci at HTo ⊢
  generalize c.ballot = cb at HTo ⊢
  clear h hp hpv ht htp hfl hmk hhas hJ hT hm hj
  go_enter Tryz.func38, Tryz.ntmps38
  go_wp2
  go_quiet (fail)
  go_wp2_with fail
  refine (HG.out _).mono ?_
  rintro e w1 ⟨rfl, hb1⟩
  have hB1 := below_step (below_drewN (Below.refl w.heap.size w) _) hb1
  have HB1 := Lib.hid hB1
  have p3 := HP3.out w1 hB1
  have p4 := HP4.out w1 hB1
  have HTo1 := Lib.hid (HTo.out w1 hB1)
  clear hb1 hB1 HP3 HP4 HTo HG c0 c1 c5
  go_wp2_with fail
  refine HTo1.out.mono ?_
  rintro e w2 ⟨rfl, hb2⟩
  have HB2 := Lib.hid (below_step HB1.out hb2)
  clear hb2 HB1 HTo1 p3 p4
  unfold msgArr
  go_wp2_with fail
  go_ret
  exact ⟨_, rfl, row_lit1 _ (acceptM ci v cb gen mk) HB2.out, (HB2.out.alloc HB2.out.size _).alloc (by have := HB2.out.size; simp; omega) _⟩
end Go.Proofs.YtaemlplcjjbamaaGreatDoor
namespace Go.Proofs.YtaemlplcjjbamaaGreatDoor
open Go Go.RowKit
set_option linter.unusedVariables false
theorem info_parts2 {P : Program} {e : TypeId} {z : Value} {size bytes : Nat} (h : (P.info? e).map (fun i => (i.zero, i.size, i.bytes)) = some (some z, size, bytes)) : ∃ i, P.info? e = some i ∧ i.zero = some z ∧ i.size = size ∧ i.bytes = bytes := by
  cases hi : P.info? e with
  | none => rw [hi] at h; cases h
  | some i =>
    rw [hi] at h
    simp only [Option.map_some, Option.some.injEq, Prod.mk.injEq] at h
    exact ⟨i, rfl, h.1, h.2.1, h.2.2⟩
theorem append_rowsT_run {P : Program} {w : World} (t ty e : TypeId) (z : Value) (size bytes : Nat) (ht : P.underlying t = some (.slice e)) (hi : (P.info? e).map (fun i => (i.zero, i.size, i.bytes)) = some (some z, size, bytes)) (hzs : z.cells.size = size) (hsz : 0 < size)
    (base base2 : Nat) (v v2 : Value) (n m N : Nat) (xs ys : List Value) (hown : w.ownsRow base e size v n xs) (hown2 : w.ownsRow base2 e size v2 m ys) (hone : ∀ u ∈ ys, u.oneCell' = true) (hN : n + m = N) (h63 : N ≤ maxLen) (hbytes : N * bytes ≤ 140737488355328) (hbase : base ≤ w.heap.size) :
    ∃ va cap w', (Builtin.append_ #[t, t] ty #[v, v2]).run P w = .ok (.slice va N cap) w' ∧ w'.ownsRow base e size (.slice va N cap) N (xs ++ ys) ∧ w.grownBy w' v.ownBlock ∧ Below base w w' ∧ (∀ g, (Value.slice va N cap).ownBlock = some g → v.ownBlock = some g ∨ w.heap.size ≤ g) := by
  obtain ⟨i0, hi0, hz0, hz1, hz2⟩ := info_parts2 hi
  have hbel : ∀ w', w.grownBy w' v.ownBlock → Below base w w' := fun w' hg => ⟨hg.os, hg.tape, hg.output, hg.size, fun j hj => hg.block j (by omega) (fun e => by
      have := (hown.lt j e.symm).1
      omega)⟩
  have key : ∃ v' w', (Builtin.append_ #[t, t] ty #[v, v2]).run P w = .ok v' w' ∧ w'.ownsRow base e size v' N (xs ++ ys) ∧ w.grownBy w' v.ownBlock ∧ (v'.ownBlock = v.ownBlock ∨ v'.ownBlock = some w.heap.size) := by
    rcases hown2.2 with ⟨rfl, rfl⟩ | ⟨g, cap, cur, rfl, hg, hb, hnc, hcm, hsz2, htk⟩
    · have hnil : ys = [] := List.length_eq_zero_iff.1 (by have := hown2.1; omega)
      refine ⟨v, w, run_append_owned_none (P := P) w base t ty e i0 size ht hi0 v n xs hown, ?_, grown_of_below (Below.refl _ _) _, Or.inl rfl⟩
      rw [hnil, List.append_nil, ← hN]
      exact hown
    · have hcells := hown2
      have hlen2 : ys.length = m * size := hown2.1
      obtain ⟨v', w', hr, h2, h3, _, h5⟩ := run_append_own_at (P := P) w base t ty e i0 z size bytes ht hi0 hz0 hz1 hz2 hzs hsz v n xs hown ⟨g, 0, none⟩ m cap ys hlen2 (fun j u hu => by
        have hj : j < m * size := by
          rw [← hlen2]
          exact (List.getElem?_eq_some_iff.1 hu).1
        rw [addr_add, hcells.cellAt j hj]
        exact hu) hone (by omega) (by rw [hN]; exact hbytes) hbase
      refine ⟨v', w', hr, ?_, h3, h5⟩
      rw [← hN]
      exact h2
  obtain ⟨v', w', hr, h2, h3, h5⟩ := key
  obtain ⟨va, vc, rfl⟩ := row_shape h2
  refine ⟨va, vc, w', hr, h2, h3, hbel w' h3, fun g hg => ?_⟩
  rcases h5 with h5 | h5
  · exact Or.inl (by rw [← h5]; exact hg)
  · rw [h5] at hg
    injection hg with hg
    exact Or.inr (by omega)
theorem wpList_append_rowsT {P : Program} {w : World} {ops : Array Oper} {rest : List Oper} {o : Oper} {a : Act} {Q : Exit → Act → World → Prop} (hgd : o.guard = none) (s x : Operand) (t : TypeId)
    (ho : o.op = .call { callee := .builtin .append, args := #[s, x], argTypes := #[t, t] })
    (e : TypeId) (z : Value) (size bytes : Nat) (ht : P.underlying t = some (.slice e)) (hi : (P.info? e).map (fun i => (i.zero, i.size, i.bytes)) = some (some z, size, bytes)) (hzs : z.cells.size = size) (hsz : 0 < size)
    (base base2 : Nat) (v v2 : Value) (n m N : Nat) (xs ys : List Value) (hs : a.eval s = v) (hx : a.eval x = v2) (hown : w.ownsRow base e size v n xs) (hown2 : w.ownsRow base2 e size v2 m ys) (hone : ∀ u ∈ ys, u.oneCell' = true) (hN : n + m = N) (h63 : N ≤ maxLen) (hbytes : N * bytes ≤ 140737488355328) (hbase : base ≤ w.heap.size)
    (h : ∀ va cap w', w'.ownsRow base e size (.slice va N cap) N (xs ++ ys) → w.grownBy w' v.ownBlock → Below base w w' → (∀ g, (Value.slice va N cap).ownBlock = some g → v.ownBlock = some g ∨ w.heap.size ≤ g) → wpList P ops Q rest (a.put o.dst (.slice va N cap)) w') : wpList P ops Q (o :: rest) a w :=
  wpList_plain hgd fun _ hK => by
    obtain ⟨va, vc, w', hr, h2, h3, h4, h5⟩ := append_rowsT_run (P := P) t o.type e z size bytes ht hi hzs hsz base base2 v v2 n m N xs ys hown hown2 hone hN h63 hbytes hbase
    unfold Oper.wp execOp
    simp only [ho, resolve, invoke, builtin, Sem.run_bind, Sem.run_pure, Result.andThen_ok, List.map_toArray, List.map_cons, List.map_nil, hs, hx, hr]
    exact hK _ _ (h va vc w' h2 h3 h4 h5)
end Go.Proofs.YtaemlplcjjbamaaGreatDoor
namespace Go.Proofs.YtaemlplcjjbamaaGreatDoor
open Go.RowKit
def worldVals (c bk : Nat) (id n : Int) : List Value := [.pointer (some ⟨c, 0, none⟩), .pointer (some ⟨bk, 0, none⟩), .int .i64 id, .int .i64 n, .slice none 0 0, .slice none 0 0, .int .i64 0]
set_option maxRecDepth 100000 in
theorem fresh_no (id n stamp : Int) (w : World) (h : ¬ NewOk id n stamp) : Calls Tryz.prog 6 #[.int .i64 id, .int .i64 n, .int .i64 stamp] w fun e w' => e = .returned (.pointer none) ∧ Below w.heap.size w w' := by
  have H := Lib.hid h
  clear h
  go_enter Tryz.func6, Tryz.ntmps6
  go_wp2_with fail
  refine (ideal_any w).mono ?_
  rintro e w1 ⟨bk, mp, rfl, hb0, hm0, hbk, hmp, hb1⟩
  have Hbk := Lib.hid hbk
  clear hbk hmp
  go_wp2_with fail
  refine (newCoord_no id n stamp bk mp _ H.out Hbk.out).mono ?_
  rintro e wx ⟨rfl, rfl⟩
  go_wp2_with fail
  go_ret
  exact ⟨rfl, hb1⟩
end Go.Proofs.YtaemlplcjjbamaaGreatDoor
namespace Go.Proofs.YtaemlplcjjbamaaGreatDoor
open Go.RowKit
set_option linter.unusedVariables false
theorem CoordAt.setFt {w : World} {b : Nat} {c : CSt} (h : CoordAt w b c) (j : Nat) (v : Value) (c' : CSt) (hh : c'.head = c.head) (hp : c'.peers = c.peers) (hf : c'.foot = c.foot.set j v) : CoordAt (w.setCell ⟨b, 84 + j, none⟩ v) b c' := by
  have e : c'.cells = c.cells.set (84 + j) v := by
    have h12 : c.head.length = 12 := rfl
    have h72 := h.2
    unfold CSt.cells
    rw [hh, hp, hf, List.set_append_right _ _ (by omega), List.set_append_right _ _ (by omega)]
    congr 3
    omega
  refine ⟨?_, by rw [hp]; exact h.2⟩
  rw [e]
  exact h.1.set _ _
def CSt.ended (c : CSt) (v : Value) : CSt := { c with call := .pointer none, yes := .pointer none, pruned := .pointer none, answer := v }
def ansVals (e g f : Int) (fs ms : Value) : List Value := [.int .i64 e, .int .i64 g, .int .i64 f, fs, ms]
set_option maxRecDepth 100000 in
set_option maxHeartbeats 2000000 in
/-- end: the call is answered -/
theorem end_call (b k : Nat) (c : CSt) (e g f : Int) (fa ma : Option Addr) (fl fc ml mc : Nat) (w : World) (h : CoordAt w b c) (hc : c.call = .pointer (some ⟨k, 0, none⟩)) (hj : c.job = .pointer none) :
    Calls Tryz.prog 21 #[.pointer (some ⟨b, 0, none⟩), .agg #[.int .i64 e, .int .i64 g, .int .i64 f, .slice fa fl fc, .slice ma ml mc]] w fun x w' => x = .returned (.tuple #[]) ∧ ∃ a, w.heap.size ≤ a ∧ Blk w' a (ansVals e g f (.slice fa fl fc) (.slice ma ml mc)) 51 ∧ CoordAt w' b (c.ended (.pointer (some ⟨a, 0, none⟩))) ∧ Touch (fun k => k = b) w w' := by
  have hbl := h.1.lt
  have h84 : w.cell? ⟨b, 84, none⟩ = some (.pointer none) := by have := h.ft 0; rw [← hj]; exact this
  have h86 : w.cell? ⟨b, 86, none⟩ = some (.pointer (some ⟨k, 0, none⟩)) := by have := h.ft 2; rw [← hc]; exact this
  have h89 : w.cell? ⟨b, 89, none⟩ = some c.yes := h.ft 5
  have h90 : w.cell? ⟨b, 90, none⟩ = some c.pruned := h.ft 6
  have h91 : w.cell? ⟨b, 91, none⟩ = some c.answer := h.ft 7
  have hfz : ∀ o, w.frozen? ⟨b, o, none⟩ = false := fun o => h.1.free o
  have hba : b ≠ w.heap.size := by omega
  have H := Lib.hid h
  have f86 := hfz 86
  have f89 := hfz 89
  have f90 := hfz 90
  have f91 := hfz 91
  clear h hc hj hfz
  go_enter Tryz.func21, Tryz.ntmps21
  go_wp2
  have h1 := H.out.setFt 2 (.pointer none) { c with call := .pointer none } rfl rfl rfl
  have h2 := h1.setFt 5 (.pointer none) { c with call := .pointer none, yes := .pointer none } rfl rfl rfl
  have h3 := h2.setFt 6 (.pointer none) { c with call := .pointer none, yes := .pointer none, pruned := .pointer none } rfl rfl rfl
  have h4 := h3.setFt 7 (.pointer (some ⟨w.heap.size, 0, none⟩)) (c.ended (.pointer (some ⟨w.heap.size, 0, none⟩))) rfl rfl rfl
  have t3 := touchOne_set (o := 84 + 6) (touchOne_set (o := 84 + 5) (touchOne_set (o := 84 + 2) (Touch.refl (fun k => k = b) w) (.pointer none)) (.pointer none)) (.pointer none)
  have t4 := touchOne_set (o := 84 + 7) t3 (.pointer (some ⟨w.heap.size, 0, none⟩))
  have hs : ((((w.setCell ⟨b, 84 + 2, none⟩ (.pointer none)).setCell ⟨b, 84 + 5, none⟩ (.pointer none)).setCell ⟨b, 84 + 6, none⟩ (.pointer none)).setCell ⟨b, 84 + 7, none⟩ (.pointer (some ⟨w.heap.size, 0, none⟩))).heap.size = w.heap.size := by simp [World.setCell]
  have hA := (Blk.new ((((w.setCell ⟨b, 84 + 2, none⟩ (.pointer none)).setCell ⟨b, 84 + 5, none⟩ (.pointer none)).setCell ⟨b, 84 + 6, none⟩ (.pointer none)).setCell ⟨b, 84 + 7, none⟩ (.pointer (some ⟨w.heap.size, 0, none⟩))) (ansVals e g f (.slice fa fl fc) (.slice ma ml mc)) 51)
  rw [hs] at hA
  have h5 := h4.alloc (.cells (ansVals e g f (.slice fa fl fc) (.slice ma ml mc)).toArray 51)
  have t5 := t4.alloc (.cells (ansVals e g f (.slice fa fl fc) (.slice ma ml mc)).toArray 51)
  go_end0
  exact ⟨rfl, w.heap.size, Nat.le_refl _, hA, h5, t5⟩
set_option maxRecDepth 100000 in
set_option maxHeartbeats 2000000 in
theorem tick_wait (b t k : Nat) (c : CSt) (m : List Bool) (n : Nat) (w : World) (h : CoordAt w b c) (hn : c.n = (n : Int)) (hn1 : 1 ≤ n) (hn9 : n ≤ 9) (hp : c.promised = .pointer (some ⟨t, 0, none⟩)) (ht : TallyAt w t n m) (hph : c.phase = 1)
    (hc : c.call = .pointer (some ⟨k, 0, none⟩)) (hl : 2 ≤ c.left) (hl2 : c.left ≤ 1000) :
    Calls Tryz.prog 17 #[.pointer (some ⟨b, 0, none⟩)] w fun e w' => ∃ v, e = .returned v ∧ w'.ownsRow w.heap.size 30 14 v (lackers m n).length (askVals c (lackers m n)) ∧ CoordAt w' b { c with left := c.left - 1 } ∧ Touch (fun k => k = b) w w' := by
  have h4 : w.cell? ⟨b, 4, none⟩ = some (.int .i64 1) := by rw [← hph]; exact h.hd 4 (by omega)
  have h86 : w.cell? ⟨b, 86, none⟩ = some (.pointer (some ⟨k, 0, none⟩)) := by have := h.ft 2; rw [← hc]; exact this
  have h87 : w.cell? ⟨b, 87, none⟩ = some (.int .i64 c.left) := h.ft 3
  have f87 : w.frozen? ⟨b, 87, none⟩ = false := h.1.free 87
  have hbt : t ≠ b := ht.1.ne h.1 (by decide)
  have hbl := h.1.lt
  have H2 := Lib.hid (h.setFt 3 (.int .i64 (c.left - 1)) { c with left := c.left - 1 } rfl rfl rfl)
  have HT2 := Lib.hid (show TallyAt (w.setCell ⟨b, 84 + 3, none⟩ (.int .i64 (c.left - 1))) t n m from ⟨ht.1.set_other (a := ⟨b, 84 + 3, none⟩) hbt _, ht.2⟩)
  have HTo := Lib.hid (touchOne_set (o := 84 + 3) (Touch.refl (fun k => k = b) w) (.int .i64 (c.left - 1)))
  have H := Lib.hid h
  have Hn := Lib.hid hn
  have Hp := Lib.hid hp
  have hsz : (w.setCell ⟨b, 84 + 3, none⟩ (.int .i64 (c.left - 1))).heap.size = w.heap.size := by simp [World.setCell]
  clear h hn hp ht hph hc hbt
  go_enter Tryz.func17, Tryz.ntmps17
  go_wp2_with fail
  refine (none_any b c _ H.out (by have := Hn.out; omega)).mono ?_
  rintro e wx ⟨rfl, rfl⟩
  go_wp2_with fail
  refine (prepare_any b t _ m n _ H2.out Hn.out hn9 Hp.out HT2.out).mono ?_
  rintro e w1 ⟨v, rfl, hown, hb⟩
  have HR := Lib.hid (show CoordAt w1 b { c with left := c.left - 1 } ∧ Touch (fun k => k = b) w w1 from ⟨H2.out.below hb, HTo.out.trans (Touch.of_below hb)⟩)
  rw [hsz] at hown
  have Hown := Lib.hid hown
  clear hown hb
  go_wp2_with fail
  go_ret
  exact ⟨_, rfl, Hown.out, HR.out⟩
set_option maxRecDepth 100000 in
set_option maxHeartbeats 2000000 in
theorem take_some (b a : Nat) (c : CSt) (e g f : Int) (fa ma : Option Addr) (fl fc ml mc : Nat) (w : World) (h : CoordAt w b c) (hn : 1 ≤ c.n) (ha : c.answer = .pointer (some ⟨a, 0, none⟩)) (hA : Blk w a (ansVals e g f (.slice fa fl fc) (.slice ma ml mc)) 51) :
    Calls Tryz.prog 13 #[.pointer (some ⟨b, 0, none⟩)] w fun x w' => x = .returned (.tuple #[.agg #[.int .i64 e, .int .i64 g, .int .i64 f, .slice fa fl fc, .slice ma ml mc], .bool true]) ∧ CoordAt w' b { c with answer := .pointer none } ∧ Touch (fun k => k = b) w w' := by
  have hb := h.1.lt
  have hal := hA.lt
  have h1 : w.cell? ⟨b, 91, none⟩ = some (.pointer (some ⟨a, 0, none⟩)) := by have := h.ft 7; rw [← ha]; exact this
  have f91 : w.frozen? ⟨b, 91, none⟩ = false := h.1.free 91
  have a0 : w.cell? ⟨a, 0, none⟩ = some (.int .i64 e) := hA.cell 0
  have a1 : w.cell? ⟨a, 1, none⟩ = some (.int .i64 g) := hA.cell 1
  have a2 : w.cell? ⟨a, 2, none⟩ = some (.int .i64 f) := hA.cell 2
  have a3 : w.cell? ⟨a, 3, none⟩ = some (.slice fa fl fc) := hA.cell 3
  have a4 : w.cell? ⟨a, 4, none⟩ = some (.slice ma ml mc) := hA.cell 4
  have H := Lib.hid h
  clear h ha
  go_enter Tryz.func13, Tryz.ntmps13
  go_wp2_with fail
  refine (none_any b c _ ⟨H.out.1.alloc _, H.out.2⟩ hn).mono ?_
  rintro e w' ⟨rfl, rfl⟩
  go_wp2_with fail
  have h4 := H.out.setFt 7 (.pointer none) { c with answer := .pointer none } rfl rfl rfl
  have t4 := touchOne_set (o := 84 + 7) (Touch.refl (fun k => k = b) w) (.pointer none)
  refine bodyPost_ret (v := .tuple #[.agg #[.int .i64 e, .int .i64 g, .int .i64 f, .slice fa fl fc, .slice ma ml mc], .bool true]) (by simp [results, Tryz.results13, go_sem]) rfl ⟨rfl, ?_, ?_⟩
  · exact (h4.alloc _).alloc _
  · exact (t4.alloc _).alloc _
def answerAt (w : World) (a : Nat) (e g f : Int) : Prop := Blk w a (ansVals e g f (.slice none 0 0) (.slice none 0 0)) 51
end Go.Proofs.YtaemlplcjjbamaaGreatDoor
