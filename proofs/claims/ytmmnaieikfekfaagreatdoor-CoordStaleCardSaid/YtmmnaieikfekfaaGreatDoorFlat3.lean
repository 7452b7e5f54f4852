/- Handle at a promise that says nothing but that it is one, at a coordinator of three vaults that knows nothing: it prepares on, or leads and knows nothing. No condition. -/
import Derived.Test.YtmmnaieikfekfaaGreatDoorHandle
import Derived.Test.YtmmnaieikfekfaaGreatDoorNack
namespace Go.Proofs.YtmmnaieikfekfaaGreatDoor
open Go Go.RowKit
set_option linter.unusedVariables false

def FlatP (ps : List Prom) : Prop := ∀ p ∈ ps, p.floor = 0 ∧ p.top = 0 ∧ p.list = []
def FlatQ (qs : List Peer) : Prop := ∀ q ∈ qs, q.floor = 0 ∧ q.top = 0
theorem flat_floor {ps : List Prom} (h : FlatP ps) : floorFrom 0 ps = 0 := by
  induction ps with
  | nil => rfl
  | cons p ps ih =>
    have h1 := h p (List.mem_cons.2 (Or.inl rfl))
    have h2 := ih (fun q hq => h q (List.mem_cons.2 (Or.inr hq)))
    unfold floorFrom at h2 ⊢
    rw [List.foldl_cons, h1.1]
    exact h2
theorem flat_top {ps : List Prom} (h : FlatP ps) : topOf ps = 0 := by
  unfold topOf
  induction ps with
  | nil => rfl
  | cons p ps ih =>
    have h1 := h p (List.mem_cons.2 (Or.inl rfl))
    have h2 := ih (fun q hq => h q (List.mem_cons.2 (Or.inr hq)))
    unfold topFrom at h2 ⊢
    rw [List.foldl_cons, h1.2.1]
    exact h2
theorem flat_floorOf {ps : List Prom} (h : FlatP ps) : floorOf ps = 0 := by
  unfold floorOf
  rw [flat_floor h, flat_top h]
  rfl
theorem flatQ_set {qs : List Peer} (h : FlatQ qs) (v : Nat) (q : Peer) (hq : q.floor = 0 ∧ q.top = 0) : FlatQ (qs.set v q) := by
  intro x hx
  rcases List.mem_or_eq_of_mem_set hx with hx | hx
  · exact h x hx
  · subst hx; exact hq
theorem farPeer_flat {p : Peer} (h : p.floor = 0 ∧ p.top = 0) : (farPeer p 0 0).floor = 0 ∧ (farPeer p 0 0).top = 0 := by
  unfold farPeer
  split
  · exact ⟨by show max p.floor 0 = 0; rw [h.1]; rfl, rfl⟩
  · exact ⟨by show max p.floor 0 = 0; rw [h.1]; rfl, h.2⟩
theorem flat_none {ps : List Prom} (h : FlatP ps) : flat ps = [] := by
  induction ps with
  | nil => rfl
  | cons p ps ih =>
    have h1 := h p (List.mem_cons.2 (Or.inl rfl))
    have h2 := ih (fun q hq => h q (List.mem_cons.2 (Or.inr hq)))
    unfold flat at h2 ⊢
    rw [List.flatMap_cons, h1.2.2, h2]
    rfl
theorem flat_again {ps : List Prom} (h : FlatP ps) : againOf ps = [] := by
  unfold againOf againFrom greatOf greatFrom
  rw [flat_none h]
  rfl
/-- what a promise that says nothing leaves of a coordinator of three vaults that knows nothing -/
def FlatSays (w0 : World) (c t : Nat) (S : CSt) (m : List Bool) (v K : Nat) (w : World) (e : Ending) (w' : World) : Prop :=
  e = .returned (.tuple #[]) ∧ Touch (InPrep c t S) w w' ∧
  (wonT (addTo m v 3) 3 = false → ∃ S' ps qs, Prep w0 w' c t S' 3 (addTo m v 3) ps qs ∧ ps.length ≤ K + 1 ∧ FlatP ps ∧ FlatQ qs ∧ S'.phase = 1 ∧ S'.id = S.id ∧ S'.ballot = S.ballot ∧ S'.call = S.call ∧ S'.job = S.job ∧ S'.fetch = S.fetch ∧ S'.answer = S.answer) ∧
  (wonT (addTo m v 3) 3 = true → ∃ S' qs, CoordAt w' c S' ∧ (S.job = .pointer none → S.fetch = .pointer none → S.call = .pointer none → LeadS S' qs) ∧ S'.id = S.id ∧ S'.ballot = S.ballot ∧ S'.answer = S.answer)

theorem handle_flat (w0 : World) (c t : Nat) (S : CSt) (m : List Bool) (ps : List Prom) (qs : List Peer) (v K : Nat) (w : World)
    (h : Prep w0 w c t S 3 m ps qs) (hv : v < 3) (hph : S.phase = 1) (hnw : wonT m 3 = false) (hK : K ≤ 100) (hps : ps.length ≤ K) (hall : FlatP ps) (hq : FlatQ qs) :
    Calls Tryz.prog 25 #[.pointer (some ⟨c, 0, none⟩), .agg #[.int .i64 2, .int .i64 (v : Int), .int .i64 S.id, .int .i64 S.ballot, .int .i64 0, .int .i64 0, .int .i64 0, .int .i64 0, .int .i64 0, .string ⟨#[]⟩, .int .i64 0, .int .i64 0, .string ⟨#[]⟩, .slice none 0 0]] w (FlatSays w0 c t S m v K w) := by
  refine handle_promise w0 c t S 3 m ps qs v 0 0 0 0 0 0 0 ⟨#[]⟩ ⟨#[]⟩ (.slice none 0 0) w h hv hph (fun w1 hb1 => ?_)
  have h1 := h.below' hb1
  have hone : isOne (v : Int) 3 = true := by unfold isOne; simp; omega
  cases hm : m.getD v false with
  | true =>
    refine (promise_old w0 c t S 3 m ps qs v 2 _ _ 0 0 0 0 0 0 0 ⟨#[]⟩ ⟨#[]⟩ (.slice none 0 0) w1 h1 hv hm).mono ?_
    rintro e w' ⟨he, hb⟩
    have hsame : addTo m v 3 = m := add_same hone (by simpa using hm)
    refine ⟨he, he, (Touch.of_below hb1).trans (Touch.of_below hb |>.mono (fun k _ h => h)), ?_, ?_⟩
    · intro _
      rw [hsame]
      exact ⟨S, ps, qs, h1.below' hb, by omega, hall, hq, hph, rfl, rfl, rfl, rfl, rfl, rfl⟩
    · intro hw
      rw [hsame, hnw] at hw
      cases hw
  | false =>
    have hnew : FlatP (ps ++ [(⟨0, 0, []⟩ : Prom)]) := by
      intro p hp
      rcases List.mem_append.1 hp with hp | hp
      · exact hall p hp
      · rw [List.mem_singleton.1 hp]; exact ⟨rfl, rfl, rfl⟩
    have hvq : v < qs.length := by rw [h.qs9]; omega
    have hqv : (qs.getD v ⟨false, 0, 0, 0, ⟨#[]⟩, false, 0, .pointer none⟩).floor = 0 ∧ (qs.getD v ⟨false, 0, 0, 0, ⟨#[]⟩, false, 0, .pointer none⟩).top = 0 := by
      rw [List.getD, List.getElem?_eq_getElem hvq]
      exact hq _ (List.getElem_mem hvq)
    have hqn := flatQ_set hq v _ (farPeer_flat hqv)
    refine (promise_new w0 c t S 3 m ps qs v 2 _ _ 0 0 0 0 0 0 0 ⟨#[]⟩ ⟨#[]⟩ none 0 [] w1 h1 hv hm (by omega) (Or.inl rfl) ?_ ?_).mono ?_
    · intro p hp
      rw [(hnew p hp).2.1]; omega
    · intro p hp
      rw [(hnew p hp).2.2]; simp
    · rintro e w' ⟨he, ht, hn, hy⟩
      refine ⟨he, he, (Touch.of_below hb1).trans ht, ?_, ?_⟩
      · intro hw
        obtain ⟨v', hP, _⟩ := hn hw
        exact ⟨_, _, _, hP, by rw [List.length_append]; simp; omega, hnew, hqn, hph, rfl, rfl, rfl, rfl, rfl, rfl⟩
      · intro hw
        obtain ⟨v1, v2, hC, _, hr2, _⟩ := hy hw
        rw [flat_again hnew] at hr2
        obtain ⟨xa, xc, hx⟩ := row_shape hr2
        refine ⟨_, _, hC, fun hj hf hcl => ⟨h.n_, rfl, flat_floorOf hnew, flat_top hnew, ⟨xa, xc, hx⟩, hj, hf, hcl, rfl, by rw [List.length_set]; exact h.qs9, hqn⟩, rfl, rfl, rfl⟩
end Go.Proofs.YtmmnaieikfekfaaGreatDoor
