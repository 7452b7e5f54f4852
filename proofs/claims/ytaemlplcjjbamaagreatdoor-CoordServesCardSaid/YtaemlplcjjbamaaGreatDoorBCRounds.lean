/- CoordServes' coordinator while it prepares: its tick, and its vaults' promises. Condition: none of them knows anything. The walk of the statement's step at 0: a tick, and what it sends is looked at, over what the tick does. Condition: all that is sent is fit. CoordServes' rounds: a tick, the answers of all vaults, and the answer taken; what three rounds of a backup and two or three of a list do. Condition: all vaults stand alike. -/
import Derived.Test.YtaemlplcjjbamaaGreatDoorBFlat3
import Derived.Test.YtaemlplcjjbamaaGreatDoorBCAsk1
import Derived.Test.YtaemlplcjjbamaaGreatDoorBCLawAcc
namespace Go.Proofs.YtaemlplcjjbamaaGreatDoor
open Go Go.RowKit
set_option linter.unusedVariables false
def PNew (p : Peer) : Prop := p.told = false ∧ p.floor = 0 ∧ p.mark.size ≠ 32
theorem PNew.far {p : Peer} (h : PNew p) : PFar 0 (farPeer p 0 0) := by
  obtain ⟨h1, h2, h3⟩ := h
  unfold farPeer
  rw [if_pos (Or.inl h1)]
  exact ⟨rfl, by show max p.floor 0 = 0; rw [h2]; rfl, rfl, rfl, rfl, Or.inr h3⟩
theorem flat_chosen {ps : List Prom} (h : FlatP ps) : chosenOf ps = [] := by
  unfold chosenOf
  rw [flat_top h, flat_floorOf h]
  rfl
def prepsL (n : Nat) : List MG := (List.range n).map fun (i : Nat) => prepM (i : Int)
theorem prepsL_length (n : Nat) : (prepsL n).length = n := by simp [prepsL]
theorem prepsL_at {n k : Nat} {m : MG} (h : (prepsL n)[k]? = some m) : k < n ∧ m = prepM (k : Int) := by
  unfold prepsL at h
  rw [List.getElem?_map] at h
  by_cases e : k < n
  · rw [List.getElem?_range e] at h
    exact ⟨e, by simpa using h.symm⟩
  · rw [List.getElem?_eq_none (by simpa using e)] at h
    cases h
theorem fullM_at : ∀ v, v < 9 → (fullM v).getD v false = false := by decide
theorem lackers_none (n : Nat) (hn : n ≤ 9) : lackers (List.replicate 9 false) n = List.range n := by
  unfold lackers
  rw [List.filter_eq_self]
  intro a ha
  have : a < n := List.mem_range.1 ha
  rw [List.getD_eq_getElem?_getD, List.getElem?_replicate, if_pos (by omega)]
  rfl
theorem askVals_preps (S : CSt) (h1 : S.id = 1) (h2 : S.ballot = 17) (n : Nat) : askVals S (List.range n) = msgsV (prepsL n) := by
  unfold askVals msgsV prepsL
  rw [h1, h2, List.flatMap_map]
  rfl
/-- a coordinator that prepares and was told nothing yet -/
structure PrC (w0 : World) (c t kb mb n : Nat) (m : List Bool) (ps : List Prom) (qs : List Peer) (S : CSt) (Bk : List ByteArray) (w : World) : Prop where
  pr : Prep w0 w c t S n m ps qs
  bok : BookIs w kb mb Bk
  id_ : S.id = 1
  bal : S.ballot = 17
  bk_ : S.book = .pointer (some ⟨kb, 0, none⟩)
  ph : S.phase = 1
  fetch : S.fetch = .pointer none
  img : S.images = .slice none 0 0
  flat : FlatP ps
theorem PrC.keep {Ts : List TypeId} {w0 : World} {c t kb mb n : Nat} {m : List Bool} {ps : List Prom} {qs : List Peer} {S : CSt} {Bk : List ByteArray} {w w' : World} (h : PrC w0 c t kb mb n m ps qs S Bk w) (k : Keep Ts w w') (b : Below w0.heap.size w0 w') (h1 : ¬ 78 ∈ Ts) (h2 : ¬ 115 ∈ Ts) (h3 : ¬ 171 ∈ Ts) : PrC w0 c t kb mb n m ps qs S Bk w' := by
  obtain ⟨cs, r1, r2⟩ := h.pr.row
  exact ⟨⟨h.pr.at_.keep k.1 h1, h.pr.n_, h.pr.n1, h.pr.n9, h.pr.promised, h.pr.tally.keep k.1 h2, ⟨cs, k.1.2 _ _ _ _ _ _ h3 r1, r2⟩, h.pr.peers, h.pr.qs9, b, h.pr.c0, h.pr.t0⟩, k.2 _ _ _ h.bok, h.id_, h.bal, h.bk_, h.ph, h.fetch, h.img, h.flat⟩
theorem PrC.below {w0 : World} {c t kb mb n : Nat} {m : List Bool} {ps : List Prom} {qs : List Peer} {S : CSt} {Bk : List ByteArray} {w w' : World} (h : PrC w0 c t kb mb n m ps qs S Bk w) (hb : Below w.heap.size w w') : PrC w0 c t kb mb n m ps qs S Bk w' :=
  h.keep (Ts := []) (Keep.of_below hb) (below_step h.pr.below hb |>.mono (Nat.le_refl _)) (by simp) (by simp) (by simp)
def tyP : List TypeId := [115, 171, 78]
theorem inPrep_tyd {w0 w : World} {c t : Nat} {S : CSt} {n : Nat} {m : List Bool} {ps : List Prom} {qs : List Peer} (h : Prep w0 w c t S n m ps qs) : ∀ q, q < w.heap.size → InPrep c t S q → Tyd tyP w q ∧ w0.heap.size ≤ q := by
  intro q _ hq
  obtain ⟨cs, r1, r2⟩ := h.row
  rcases hq with rfl | rfl | e
  · exact ⟨Tyd.blk h.at_.1 (by simp [tyP]), h.c0⟩
  · exact ⟨Tyd.blk h.tally.1 (by simp [tyP]), h.t0⟩
  · exact ⟨Tyd.row r1 (by simp [tyP]) e, (row_lt r1 e).1⟩
/-- v of the vaults have promised -/
def PSt (w0 : World) (c t wb kb mb n K : Nat) (sv : Value) (L : List MG) (kd left rd : Int) (fs : List TFile) (bkl v : Nat) (w : World) : Prop :=
  (wonT (fullM v) n = false → ∃ S ps qs Bk, Wst w0 c wb kb n K sv w ∧ PrC w0 c t kb mb n (fullM v) ps qs S Bk w ∧ w.ownsRow w0.heap.size 30 14 sv L.length (msgsV L) ∧ Bk.length ≤ bkl ∧ Xt kd left rd (.pointer none) fs JNone S w ∧ Mix n (fun i => i < v) (PFar 0) PNew qs ∧ ps.length ≤ v) ∧
  (wonT (fullM v) n = true → Md w0 c wb kb mb n K sv L [] [] (Xt kd left rd (.pointer none) fs JNone) bkl (Mix n (fun i => i < v) (PFar 0) PNew) w)
theorem PSt.mono {w0 : World} {c t wb kb mb n K K' : Nat} {sv : Value} {L : List MG} {kd left rd : Int} {fs : List TFile} {bkl v v' : Nat} {w : World} (h : PSt w0 c t wb kb mb n K sv L kd left rd fs bkl v w) (hK : K ≤ K') (e : v = v') : PSt w0 c t wb kb mb n K' sv L kd left rd fs bkl v' w := by
  subst e
  refine ⟨fun hw => ?_, fun hw => (h.2 hw).imp hK (fun _ x => x)⟩
  obtain ⟨S, ps, qs, Bk, h1, h2⟩ := h.1 hw
  exact ⟨S, ps, qs, Bk, h1.mono hK, h2⟩
theorem PSt.below {w0 : World} {c t wb kb mb n K : Nat} {sv : Value} {L : List MG} {kd left rd : Int} {fs : List TFile} {bkl v : Nat} {w w' : World} (h : PSt w0 c t wb kb mb n K sv L kd left rd fs bkl v w) (hb : Below w.heap.size w w') : PSt w0 c t wb kb mb n K sv L kd left rd fs bkl v w' := by
  refine ⟨fun hw => ?_, fun hw => (h.2 hw).below (side_xt jside_none) hb⟩
  obtain ⟨S, ps, qs, Bk, h1, h2, h3, h4, h5, h6, h7⟩ := h.1 hw
  exact ⟨S, ps, qs, Bk, h1.step (Ts := []) (KeepT.of_below hb) (Abv.of_below hb) (by simp) (by simp), h2.below hb, ownsRow_below h3 hb, h4, side_xt jside_none _ _ _ _ h5 rfl rfl rfl rfl rfl rfl (KeepT.of_below hb), h6, h7⟩
theorem PSt.blk {w0 : World} {c t wb kb mb n K : Nat} {sv : Value} {L : List MG} {kd left rd : Int} {fs : List TFile} {bkl v : Nat} {w : World} (h : PSt w0 c t wb kb mb n K sv L kd left rd fs bkl v w) : Wst w0 c wb kb n K sv w ∧ w.ownsRow w0.heap.size 30 14 sv L.length (msgsV L) := by
  cases hw : wonT (fullM v) n with
  | false => obtain ⟨S, ps, qs, Bk, h1, _, h3, _⟩ := h.1 hw; exact ⟨h1, h3⟩
  | true => obtain ⟨S, ps, Bk, h1, _⟩ := h.2 hw; exact ⟨h1.ws, h1.sn⟩
set_option maxHeartbeats 2000000 in
theorem law_prep {w0 w : World} {c t wb kb mb n K : Nat} {sv : Value} {L : List MG} {kd left rd : Int} {fs : List TFile} {bkl v : Nat} (hv : v < n) (hn9 : n ≤ 9) (hK : K ≤ 900000) (h : PSt w0 c t wb kb mb n K sv L kd left rd fs bkl v w) :
    Calls Tryz.prog 29 #[.pointer (some ⟨wb, 0, none⟩), .agg #[.int .i64 2, .int .i64 (v : Int), .int .i64 1, .int .i64 17, .int .i64 0, .int .i64 0, .int .i64 0, .int .i64 0, .int .i64 0, .string ⟨#[]⟩, .int .i64 0, .int .i64 0, .string ⟨#[]⟩, .slice none 0 0]] w fun e w' => e = .returned (.tuple #[]) ∧ PSt w0 c t wb kb mb n (K + 1) sv L kd left rd fs bkl (v + 1) w' ∧ KeepOA w w' := by
  cases hw : wonT (fullM v) n with
  | true =>
    obtain ⟨S, ps, Bk, a1, a2, a3, a4⟩ := h.2 hw
    have hkl : v < ps.length := by rw [a1.ld.len]; omega
    refine (law_two w0 c wb kb mb n K v _ _ [] [] ps S Bk 0 0 0 0 0 0 0 ⟨#[]⟩ ⟨#[]⟩ none 0 0 w a1 hv hn9 hK (by omega) hkl).mono ?_
    rintro e w2 ⟨rfl, h5, hk5⟩
    have hw2 := wonT_mono n (by omega) v hv hw
    refine ⟨rfl, ⟨(fun hw3 => by rw [hw2] at hw3; cases hw3), fun _ => ⟨_, _, Bk, h5, a2, side_xt jside_none _ _ _ _ a3 rfl rfl rfl rfl rfl rfl (hk5.1.mono (by decide)), ?_⟩⟩, keep_op hk5.1 (by decide)⟩
    exact a4.set v _ (fun i hi => by constructor <;> intro hh <;> omega) ⟨fun _ => ((a4 v hkl hv).2 (by omega)).far, fun hh => absurd (Nat.lt_succ_self v) hh⟩
  | false =>
    obtain ⟨S, ps, qs, Bk, a1, a2, a3, a4, a5, a6, a7⟩ := h.1 hw
    have hkl : v < qs.length := by rw [a2.pr.qs9]; omega
    have hpn := (a6 v hkl hv).2 (by omega)
    refine told_own w0 c wb kb n K v sv S 2 17 0 0 0 0 0 0 0 ⟨#[]⟩ ⟨#[]⟩ none 0 0 w a1 a2.pr.at_ (by rw [a2.pr.n_]; omega) a2.bal hK hv (by omega) (fun w1 hW1 hk1 => ?_)
    have b2 := a2.keep hk1 hW1.below (by decide) (by decide) (by decide)
    have b3 := hk1.1.2 _ _ _ _ _ _ (by decide) a3
    have hH := handle_promise (R := fun e w' => e = .returned (.tuple #[]) ∧ PSt w0 c t wb kb mb n (K + 1) sv L kd left rd fs bkl (v + 1) w' ∧ KeepOA w w') w0 c t S n (fullM v) ps qs v 0 0 0 0 0 0 0 ⟨#[]⟩ ⟨#[]⟩ (.slice none 0 0) w1 b2.pr hv b2.ph (fun w2 hb2 => ?_)
    · exact calls_arg (fun i b => #[.pointer (some ⟨c, 0, none⟩), .agg #[.int .i64 2, .int .i64 (v : Int), .int .i64 i, .int .i64 b, .int .i64 0, .int .i64 0, .int .i64 0, .int .i64 0, .int .i64 0, .string ⟨#[]⟩, .int .i64 0, .int .i64 0, .string ⟨#[]⟩, .slice none 0 0]]) a2.id_ a2.bal hH
    · have d2 := b2.below hb2
      have d3 := ownsRow_below b3 hb2
      have hW2 := hW1.step (Ts := []) (KeepT.of_below hb2) (Abv.of_below hb2) (by simp) (by simp)
      have hnew : FlatP (ps ++ [(⟨0, 0, []⟩ : Prom)]) := by
        intro p hp
        rcases List.mem_append.1 hp with hp | hp
        · exact a2.flat p hp
        · rw [List.mem_singleton.1 hp]; exact ⟨rfl, rfl, rfl⟩
      refine (promise_new w0 c t S n (fullM v) ps qs v 2 _ _ 0 0 0 0 0 0 0 ⟨#[]⟩ ⟨#[]⟩ none 0 [] w2 d2.pr hv (fullM_at v (by omega)) (by omega) (Or.inl rfl) ?_ ?_).mono ?_
      · intro p hp
        rw [(hnew p hp).2.1]; omega
      · intro p hp
        rw [(hnew p hp).2.2]; simp
      · rintro e w3 ⟨he, hT, hno, hyes⟩
        have hty := inPrep_tyd d2.pr
        have hk3 : Keep tyP w2 w3 := Keep.of_touch hT (fun q hq hs => (hty q hq hs).1) (by decide)
        have hab3 : Abv w0 w2 w3 := Abv.of_touch hT (fun q hq hs => (hty q hq hs).2)
        have hW3 := hW2.step hk3.1 hab3 (by decide) (by decide)
        have d3' := hk3.1.2 _ _ _ _ _ _ (by decide) d3
        have hka : Keep (171 :: 115 :: tyH) w w3 := (hk1.mono (by decide)).trans ((Keep.of_below hb2).trans (hk3.mono (by decide)))
        have hq : qs.getD v ⟨false, 0, 0, 0, ⟨#[]⟩, false, 0, .pointer none⟩ = qs[v] := by rw [List.getD, List.getElem?_eq_getElem hkl]; rfl
        have hcall : ∀ S', S'.call = S.call → CallIs kd fs S' w3 := fun S' e => a5.call.keep e hka.1 (by decide) (by decide)
        have hmix : Mix n (fun i => i < v + 1) (PFar 0) PNew (qs.set v (farPeer qs[v] 0 0)) := a6.set v _ (fun i hi => by constructor <;> intro hh <;> omega) ⟨fun _ => hpn.far, fun hh => absurd (Nat.lt_succ_self v) hh⟩
        rw [hq, fullM_add n (by omega) v hv] at hno hyes
        refine ⟨he, he, ⟨fun hw3 => ?_, fun hw3 => ?_⟩, keep_op hka.1 (by decide)⟩
        · obtain ⟨v', hP, _⟩ := hno hw3
          exact ⟨_, _, _, Bk, hW3, ⟨hP, hk3.2 _ _ _ d2.bok, a2.id_, a2.bal, a2.bk_, a2.ph, a2.fetch, a2.img, hnew⟩, d3', a4, ⟨hcall _ rfl, a5.left, a5.read, a5.yes, a5.ans, a5.job⟩, hmix, by rw [List.length_append]; simp; omega⟩
        · obtain ⟨v1, v2, hC, hr1, hr2, _⟩ := hyes hw3
          rw [flat_again hnew] at hr2
          rw [flat_chosen hnew] at hr1
          rw [flat_floorOf hnew, flat_top hnew] at hC
          obtain ⟨xa, xc, hx⟩ := row_shape hr2
          have hsz := hW2.size
          exact ⟨_, _, Bk, ⟨hW3, ⟨hC, a2.id_, a2.pr.n_, a2.bk_, a2.bal, rfl, rfl, rfl, ⟨xa, xc, hx⟩, a2.fetch, rfl, by rw [List.length_set]; exact a2.pr.qs9, row_base hr1 hsz, by show w3.ownsRow _ _ _ S.images _ _; rw [a2.img]; exact World.ownsRow_nil _ _ _ _, hk3.2 _ _ _ d2.bok⟩, d3'⟩, a4, ⟨hcall _ rfl, a5.left, a5.read, a5.yes, a5.ans, a5.job⟩, hmix⟩
set_option maxHeartbeats 1000000 in
theorem five_prep {w0 w : World} {c t wb kb mb n K v : Nat} {sv : Value} {kd left rd : Int} {fs : List TFile} {bkl : Nat} (hv : v < n) (hn9 : n ≤ 9) (hK : K + n ≤ 900000)
    (h : PSt w0 c t wb kb mb n K sv (prepsL n) kd left rd fs bkl v w) :
    FiveCalls wb v w (PSt w0 c t wb kb mb n (K + n) sv (prepsL n) kd left rd fs bkl (v + 1)) := by
  intro m0 m1 m2 m3 m4 m5 m6 m7 m8 m9 m10 m11 m12 m13 tx k0 k1 k2
  obtain ⟨sa, sc, rfl⟩ := row_shape h.blk.2
  have P : FiveOk w0.heap.size wb n v sa sc (prepsL n) (fun k => PSt w0 c t wb kb mb n (K + k) (.slice sa (prepsL n).length sc) (prepsL n) kd left rd fs bkl (if v < k then v + 1 else v)) := by
    refine ⟨?_, ?_, ?_, ?_, ?_, ?_⟩
    · intro k w1 h1
      obtain ⟨av, kk, xs, b1, _⟩ := h1.blk.1.world
      exact ⟨c, kb, av, b1⟩
    · intro k w1 h1
      exact h1.blk.2
    · exact fun k w1 w2 h1 hb => h1.below hb
    · intro k m w1 hm hto h1
      obtain ⟨hk, rfl⟩ := prepsL_at hm
      have hkv : k ≠ v := fun e => hto (by rw [e]; rfl)
      exact h1.mono (by omega) (step_if v k v hkv).symm
    · intro k m hm hto
      obtain ⟨hk, rfl⟩ := prepsL_at hm
      have hkv : (k : Int) = v := hto
      obtain rfl : k = v := by omega
      refine ⟨⟨2, (k : Int), 1, 17, 0, 0, 0, 0, 0, ⟨#[]⟩, 0, 0, ⟨#[]⟩, none, 0, 0⟩, fun w1 => reply_prep k w1, ?_⟩
      intro w1 h1
      rw [if_neg (by omega)] at h1
      rw [if_pos (by omega)]
      exact law_prep hv hn9 (show K + k ≤ 900000 by omega) h1
    · rw [prepsL_length]; omega
  refine (five_any w0.heap.size wb n v sa sc (prepsL n) _ P m0 m1 m2 m3 m4 m5 m6 m7 m8 m9 m10 m11 m12 m13 tx k0 k1 k2 w (h.mono (Nat.le_refl _) (by rw [if_neg (by omega)]))).mono ?_
  rintro e w' ⟨r, rfl, h1, hko⟩
  exact ⟨r, rfl, h1.mono (by rw [prepsL_length]; exact Nat.le_refl _) (by rw [prepsL_length, if_pos hv]), hko⟩
end Go.Proofs.YtaemlplcjjbamaaGreatDoor
namespace Go.Proofs.YtaemlplcjjbamaaGreatDoor
open Go Go.RowKit
set_option linter.unusedVariables false
structure ZeroOk (w0 : World) (c n : Nat) (Q : List MG → World → Prop) : Prop where
  keep : ∀ L w w', Q L w → Keep [43] w w' → Below w0.heap.size w0 w' → Q L w'
  coord : ∀ L w, Q L w → ∃ S, CoordAt w c S ∧ S.id = 1 ∧ S.n = (n : Int) ∧ S.ballot = 17
  fit : ∀ L w, Q L w → ∀ m ∈ L, FitM m ∧ m.fr = 1 ∧ m.to_ < (n : Int) ∧ (m.k = 9 ∨ (m.k ≠ 9 ∧ m.k ≠ 13 ∧ m.bal = 17))
  small : ∀ L w, Q L w → L.length ≤ 1000
def ZeroSays (w0 w : World) (c wb kb n K : Nat) (Q : List MG → World → Prop) (e : Ending) (w' : World) : Prop :=
  ∃ r v L, e = .returned (.bool r) ∧ KeepOA w w' ∧ Wst w0 c wb kb n K v w' ∧ w'.ownsRow w0.heap.size 30 14 v L.length (msgsV L) ∧ Q L w'
theorem Wst.sent {w0 : World} {c wb kb n K : Nat} {sv : Value} {w : World} (h : Wst w0 c wb kb n K sv w) (v : Value) : Wst w0 c wb kb n K v (w.setCell ⟨wb, 4, none⟩ v) ∧ Keep [43] w (w.setCell ⟨wb, 4, none⟩ v) := by
  obtain ⟨av, k, xs, hW, hA, hk⟩ := h.world
  have hT : Touch (fun k => k = wb) w (w.setCell ⟨wb, 4, none⟩ v) := touchOne_set (Touch.refl (fun k => k = wb) w) _
  have hb : Below w0.heap.size w0 (w.setCell ⟨wb, 4, none⟩ v) := h.below.setCell (p := ⟨wb, 4, none⟩) h.wb0 _
  exact ⟨⟨⟨av, k, xs, hW.set 4 v, row_touch hA hT (fun g hg e => row_ne hA hW (by decide) (by rw [hg, e])), hk⟩, hb, h.wb0, h.c0⟩, Keep.of_touch hT (fun q _ e => by subst e; exact Tyd.blk hW (by simp)) (by decide)⟩
set_option maxRecDepth 100000 in
set_option maxHeartbeats 4000000 in
theorem zero_any (w0 : World) (c wb kb n K : Nat) (sv : Value) (Q : List MG → World → Prop) (P : ZeroOk w0 c n Q) (hn1 : 1 ≤ n) (o1 m0 m1 m2 m3 m4 m5 m6 m7 m8 m9 m10 m11 m12 m13 tx k0 k1 k2 : Value) (w : World) (h : Wst w0 c wb kb n K sv w)
    (hT : ∀ w1, Below w.heap.size w w1 → Calls Tryz.prog 17 #[.pointer (some ⟨c, 0, none⟩)] w1 fun e w2 => ∃ v L, e = .returned v ∧ w2.ownsRow w1.heap.size 30 14 v L.length (msgsV L) ∧ Q L w2 ∧ Wst w0 c wb kb n K sv w2 ∧ KeepOA w1 w2) :
    Calls Tryz.prog 12 #[.pointer (some ⟨wb, 0, none⟩), .agg #[.int .i64 0, o1, m0, m1, m2, m3, m4, m5, m6, m7, m8, m9, m10, m11, m12, m13, tx, k0, k1, k2]] w (ZeroSays w0 w c wb kb n K Q) := by
  have hb1 := (Below.refl w.heap.size w).alloc (Nat.le_refl _) (.cells #[.int .i64 0, o1, m0, m1, m2, m3, m4, m5, m6, m7, m8, m9, m10, m11, m12, m13, tx, k0, k1, k2] 35)
  obtain ⟨av, k, xs, hW, _⟩ := h.world
  have hwl := hW.lt
  have hsz := h.below.size
  have HT := Lib.hid (hT _ hb1)
  have w01 : w.cell? ⟨wb, 0, none⟩ = some (.pointer (some ⟨c, 0, none⟩)) := hW.cell 0
  have HP := Lib.hid P
  clear h hW hT hb1 P
  go_enter Tryz.func12, Tryz.ntmps12
  go_wp2_with fail
  refine HT.out.mono ?_
  rintro e w1 ⟨v, L, rfl, hrow, hQ, hW1, hka⟩
  have hkb := (KeepOA.of_below ((Below.refl w.heap.size w).alloc (Nat.le_refl _) (.cells #[.int .i64 0, o1, m0, m1, m2, m3, m4, m5, m6, m7, m8, m9, m10, m11, m12, m13, tx, k0, k1, k2] 35))).trans hka
  obtain ⟨sa, sc, rfl⟩ := row_shape hrow
  have hz : w0.heap.size ≤ (w.alloc (.cells #[.int .i64 0, o1, m0, m1, m2, m3, m4, m5, m6, m7, m8, m9, m10, m11, m12, m13, tx, k0, k1, k2] 35)).heap.size := by simp; omega
  obtain ⟨h2, k2'⟩ := hW1.sent (.slice sa L.length sc)
  have HW2 := Lib.hid h2
  have HQ2 := Lib.hid (HP.out.keep _ _ _ hQ k2' h2.below)
  have HKa := Lib.hid (hkb.trans (keep_op k2'.1 (by decide)))
  have HR2 := Lib.hid (k2'.1.2 _ _ _ _ _ _ (by decide) (row_base hrow hz))
  obtain ⟨av1, k1', xs1, hB1, _⟩ := hW1.world
  have c4 : w1.cell? ⟨wb, 4, none⟩ = some sv := hB1.cell 4
  have f4 : w1.frozen? ⟨wb, 4, none⟩ = false := hB1.free 4
  clear hrow hQ hW1 h2 k2' hB1 HT hz hka hkb
  go_wp2_with fail
  generalize w1.setCell ⟨wb, 4, none⟩ (.slice sa L.length sc) = w2 at HW2 HQ2 HR2 HKa ⊢
  obtain ⟨av2, k2', xs2, hB2, _⟩ := HW2.out.world
  obtain ⟨S, hC, hid_, hnS, hbal⟩ := HP.out.coord _ _ HQ2.out
  have hF := HP.out.fit _ _ HQ2.out
  have hS := sends_any wb c kb w0.heap.size n sa sc av2 L S w2 (by rw [hid_]; exact hB2) hC (by rw [hnS]; omega) HR2.out (fun m hm => by
    obtain ⟨a1, a2, a3, a4⟩ := hF m hm
    rw [hid_, hbal]
    exact ⟨a1, a2, a3, a4⟩) (HP.out.small _ _ HQ2.out)
  have HS := Lib.hid hS
  clear hS hC hid_ hnS hbal hF hB2 c4 f4
  refine HS.out.mono ?_
  rintro e w3 ⟨rfl, hb3⟩
  have hk3 : Keep [43] w2 w3 := Keep.of_below hb3
  have HK3 := Lib.hid (HKa.out.trans (KeepOA.of_below hb3))
  have H3 := Lib.hid (And.intro (HW2.out.step (Ts := []) (KeepT.of_below hb3) (Abv.of_below hb3) (by simp) (by simp)) (And.intro (ownsRow_below HR2.out hb3) (HP.out.keep _ _ _ HQ2.out hk3 ((Abv.of_below (w0 := w0) hb3).below HW2.out.below))))
  clear hb3 hk3
  go_wp2_with fail
  go_ret
  exact ⟨_, _, L, rfl, HK3.out, H3.out.1, H3.out.2.1, H3.out.2.2⟩
end Go.Proofs.YtaemlplcjjbamaaGreatDoor
namespace Go.Proofs.YtaemlplcjjbamaaGreatDoor
open Go Go.RowKit
set_option linter.unusedVariables false
def RW (w0 : World) (c wb kb n : Nat) (w : World) : Prop := ∃ K sv, Wst w0 c wb kb n K sv w
def ZeroCalls (wb : Nat) (w : World) (R : World → Prop) : Prop := ∀ o1 m0 m1 m2 m3 m4 m5 m6 m7 m8 m9 m10 m11 m12 m13 tx k0 k1 k2 : Value, Calls Tryz.prog 12 #[.pointer (some ⟨wb, 0, none⟩), .agg #[.int .i64 0, o1, m0, m1, m2, m3, m4, m5, m6, m7, m8, m9, m10, m11, m12, m13, tx, k0, k1, k2]] w fun e w' => ∃ r, e = .returned (.bool r) ∧ R w' ∧ KeepOA w w'
/-- only answers may have turned -/
def KA (w0 w w' : World) : Prop := Keep [51] w w' ∧ Abv w0 w w'
theorem KA.of_below {w0 w w' : World} (h : Below w.heap.size w w') : KA w0 w w' := ⟨Keep.of_below h, Abv.of_below h⟩
def SideA (X : CSt → World → Prop) : Prop := ∀ S w w', X S w → KeepT [51] w w' → X S w'
theorem sideA_none {kd left rd : Int} {yes : Value} {fs : List TFile} : SideA (Xt kd left rd yes fs JNone) := fun S w w' h k => ⟨h.call.keep rfl k (by decide) (by decide), h.left, h.read, h.yes, h.ans, h.job⟩
theorem sideA_job {kd left rd : Int} {yes : Value} {fs : List TFile} {w0 : World} {n : Nat} {g : Int} {mk img : ByteArray} {m : List Bool} : SideA (Xt kd left rd yes fs (JobIs w0 n g mk img m)) := fun S w w' h k => ⟨h.call.keep rfl k (by decide) (by decide), h.left, h.read, h.yes, h.ans, h.job.keep rfl k (by decide) (by decide)⟩
theorem sideA_asked {w0 : World} {n : Nat} {left rd : Int} {fs : List TFile} {M : List Bool} : SideA (XAsked w0 n left rd fs M) := by
  rintro S w w' ⟨t, h1, h2, h3⟩ k
  exact ⟨t, sideA_none _ _ _ h1 k, h2.keep k (by decide), h3⟩
theorem Md.keepA {w0 : World} {c wb kb mb n K : Nat} {sv : Value} {L : List MG} {l : List Ent} {I : List (Int × List UInt8)} {X : CSt → World → Prop} {bkl : Nat} {PP : List Peer → Prop} {w w' : World} (hX : SideA X) (h : Md w0 c wb kb mb n K sv L l I X bkl PP w) (k : KA w0 w w') : Md w0 c wb kb mb n K sv L l I X bkl PP w' := by
  obtain ⟨S, ps, Bk, h1, h2, h3, h4⟩ := h
  exact ⟨S, ps, Bk, ⟨h1.ws.step k.1.1 k.2 (by decide) (by decide), h1.ld.keep k.1 (by decide) (by decide) (by decide), k.1.1.2 _ _ _ _ _ _ (by decide) h1.sn⟩, h2, hX _ _ _ h3 k.1.1, h4⟩
/-- T rounds: ahead of a tick the world is A t, behind it and v vaults' answers M t v, at the end E -/
structure Rounds (w0 : World) (c wb kb n T ml : Nat) (G : Int) (A : Nat → World → Prop) (M : Nat → Nat → World → Prop) (E : World → Prop) : Prop where
  tick : ∀ t w, t < T → A t w → ZeroCalls wb w (M t 0)
  five : ∀ t v w, t < T → v < n → M t v w → FiveCalls wb v w (M t (v + 1))
  take : ∀ t w, t + 1 < T → M t n w → Calls Tryz.prog 13 #[.pointer (some ⟨c, 0, none⟩)] w fun e w' => e = .returned noAnswer ∧ A (t + 1) w' ∧ KeepOA w w'
  last : ∀ w, M (T - 1) n w → Calls Tryz.prog 13 #[.pointer (some ⟨c, 0, none⟩)] w fun e w' => ∃ (fa : Option Addr) (fl fc : Nat) (ma : Option Addr) (mc : Nat), e = .returned (.tuple #[.agg #[.int .i64 0, .int .i64 G, .int .i64 0, .slice fa fl fc, .slice ma ml mc], .bool true]) ∧ E w' ∧ KeepOA w w'
  pos : 1 ≤ T ∧ T ≤ 29
  wA : ∀ t w, A t w → RW w0 c wb kb n w
  wM : ∀ t v w, M t v w → RW w0 c wb kb n w
  wE : ∀ w, E w → RW w0 c wb kb n w
  qA : ∀ t w w', A t w → KA w0 w w' → A t w'
  qM : ∀ t v w w', M t v w → Below w.heap.size w w' → M t v w'
  qE : ∀ w w', E w → KA w0 w w' → E w'
theorem Md.rw {w0 : World} {c wb kb mb n K : Nat} {sv : Value} {L : List MG} {l : List Ent} {I : List (Int × List UInt8)} {X : CSt → World → Prop} {bkl : Nat} {PP : List Peer → Prop} {w : World} (h : Md w0 c wb kb mb n K sv L l I X bkl PP w) : RW w0 c wb kb n w := by
  obtain ⟨S, ps, Bk, h1, _⟩ := h
  exact ⟨K, sv, h1.ws⟩
theorem Md.bkl {w0 : World} {c wb kb mb n K : Nat} {sv : Value} {L : List MG} {l : List Ent} {I : List (Int × List UInt8)} {X : CSt → World → Prop} {bkl bkl' : Nat} {PP : List Peer → Prop} {w : World} (h : Md w0 c wb kb mb n K sv L l I X bkl PP w) (hb : bkl ≤ bkl') : Md w0 c wb kb mb n K sv L l I X bkl' PP w := by
  obtain ⟨S, ps, Bk, h1, h2, h3⟩ := h
  exact ⟨S, ps, Bk, h1, by omega, h3⟩
set_option maxHeartbeats 1000000 in
/-- the statement's step at 0 over a tick of a leading coordinator -/
theorem zero_tk {w0 w : World} {c wb kb mb n K : Nat} {sv : Value} {L0 : List MG} {l : List Ent} {I I2 : List (Int × List UInt8)} {X X' : CSt → World → Prop} {bkl bk2 : Nat} {PP PP2 : List Peer → Prop} {LF : List MG → Prop} (hX : Side X) (hX' : Side X') (hn1 : 1 ≤ n) (hn9 : n ≤ 9)
    (h : Md w0 c wb kb mb n K sv L0 l I X bkl PP w) (hfit : ∀ L, LF L → (∀ m ∈ L, SentOk n m) ∧ L.length ≤ 1000)
    (hT : ∀ w1, Md w0 c wb kb mb n K sv L0 l I X bkl PP w1 → Calls Tryz.prog 17 #[.pointer (some ⟨c, 0, none⟩)] w1 (TickSays (fun L w' => Tk w0 w1 c kb mb n l I2 X' bk2 PP2 w' ∧ LF L) w1)) :
    ZeroCalls wb w (fun w' => ∃ sv L, LF L ∧ Md w0 c wb kb mb n K sv L l I2 X' bk2 PP2 w') := by
  intro o1 m0 m1 m2 m3 m4 m5 m6 m7 m8 m9 m10 m11 m12 m13 tx k0 k1 k2
  have h0 := h
  obtain ⟨S0, ps0, Bk0, hS0, _⟩ := h0
  refine (zero_any w0 c wb kb n K sv (fun L w' => LF L ∧ ∃ S ps Bk, Ld w0 c kb mb n l I2 ps S Bk w' ∧ Bk.length ≤ bk2 ∧ X' S w' ∧ PP2 ps) ⟨?_, ?_, ?_, ?_⟩ hn1 o1 m0 m1 m2 m3 m4 m5 m6 m7 m8 m9 m10 m11 m12 m13 tx k0 k1 k2 w hS0.ws ?_).mono ?_
  · rintro L w1 w2 ⟨hL, S, ps, Bk, a1, a2, a3, a4⟩ hk _
    exact ⟨hL, S, ps, Bk, a1.keep hk (by decide) (by decide) (by decide), a2, hX' _ _ _ _ a3 rfl rfl rfl rfl rfl rfl (hk.1.mono (by decide)), a4⟩
  · rintro L w1 ⟨hL, S, ps, Bk, a1, _⟩
    exact ⟨S, a1.at_, a1.id_, a1.n_, a1.bal⟩
  · rintro L w1 ⟨hL, _⟩ m hm
    exact (hfit L hL).1 m hm
  · rintro L w1 ⟨hL, _⟩
    exact (hfit L hL).2
  · intro w1 hb1
    refine (hT w1 (h.below hX hb1)).mono ?_
    rintro e w2 ⟨v, L, rfl, hr, hTk, hL⟩
    have hW1 := hS0.ws.step (Ts := []) (KeepT.of_below hb1) (Abv.of_below hb1) (by simp) (by simp)
    exact ⟨v, L, rfl, hr, ⟨hL, hTk.ex⟩, hW1.step hTk.keep hTk.abv (by decide) (by decide), keep_op hTk.keep (by decide)⟩
  · rintro e w' ⟨r, v, L, rfl, hko, hW, hr, hL, S, ps, Bk, a1, a2⟩
    exact ⟨r, rfl, ⟨v, L, hL, S, ps, Bk, ⟨hW, a1, hr⟩, a2⟩, hko⟩
set_option maxHeartbeats 1000000 in
/-- the statement's step at 0 over a tick of a leading coordinator -/
theorem zero_tky {w0 w : World} {c wb kb mb n K : Nat} {sv : Value} {L0 : List MG} {l : List Ent} {I I2 : List (Int × List UInt8)} {X : CSt → World → Prop} {X' : ByteArray → CSt → World → Prop} {bkl bk2 : Nat} {PP : List Peer → Prop} {PP2 : ByteArray → List Peer → Prop} {LF : ByteArray → List MG → Prop} (hX : Side X) (hX' : ∀ y, Side (X' y)) (hn1 : 1 ≤ n) (hn9 : n ≤ 9)
    (h : Md w0 c wb kb mb n K sv L0 l I X bkl PP w) (hfit : ∀ y L, LF y L → (∀ m ∈ L, SentOk n m) ∧ L.length ≤ 1000)
    (hT : ∀ w1, Md w0 c wb kb mb n K sv L0 l I X bkl PP w1 → Calls Tryz.prog 17 #[.pointer (some ⟨c, 0, none⟩)] w1 (TickSays (fun L w' => ∃ y, Tk w0 w1 c kb mb n l I2 (X' y) bk2 (PP2 y) w' ∧ LF y L) w1)) :
    ZeroCalls wb w (fun w' => ∃ y sv L, LF y L ∧ Md w0 c wb kb mb n K sv L l I2 (X' y) bk2 (PP2 y) w') := by
  intro o1 m0 m1 m2 m3 m4 m5 m6 m7 m8 m9 m10 m11 m12 m13 tx k0 k1 k2
  have h0 := h
  obtain ⟨S0, ps0, Bk0, hS0, _⟩ := h0
  refine (zero_any w0 c wb kb n K sv (fun L w' => ∃ y, LF y L ∧ ∃ S ps Bk, Ld w0 c kb mb n l I2 ps S Bk w' ∧ Bk.length ≤ bk2 ∧ X' y S w' ∧ PP2 y ps) ⟨?_, ?_, ?_, ?_⟩ hn1 o1 m0 m1 m2 m3 m4 m5 m6 m7 m8 m9 m10 m11 m12 m13 tx k0 k1 k2 w hS0.ws ?_).mono ?_
  · rintro L w1 w2 ⟨y, hL, S, ps, Bk, a1, a2, a3, a4⟩ hk _
    exact ⟨y, hL, S, ps, Bk, a1.keep hk (by decide) (by decide) (by decide), a2, hX' y _ _ _ _ a3 rfl rfl rfl rfl rfl rfl (hk.1.mono (by decide)), a4⟩
  · rintro L w1 ⟨y, hL, S, ps, Bk, a1, _⟩
    exact ⟨S, a1.at_, a1.id_, a1.n_, a1.bal⟩
  · rintro L w1 ⟨y, hL, _⟩ m hm
    exact (hfit y L hL).1 m hm
  · rintro L w1 ⟨y, hL, _⟩
    exact (hfit y L hL).2
  · intro w1 hb1
    refine (hT w1 (h.below hX hb1)).mono ?_
    rintro e w2 ⟨v, L, rfl, hr, y, hTk, hL⟩
    have hW1 := hS0.ws.step (Ts := []) (KeepT.of_below hb1) (Abv.of_below hb1) (by simp) (by simp)
    exact ⟨v, L, rfl, hr, ⟨y, hL, hTk.ex⟩, hW1.step hTk.keep hTk.abv (by decide) (by decide), keep_op hTk.keep (by decide)⟩
  · rintro e w' ⟨r, v, L, rfl, hko, hW, hr, y, hL, S, ps, Bk, a1, a2⟩
    exact ⟨r, rfl, ⟨y, v, L, hL, S, ps, Bk, ⟨hW, a1, hr⟩, a2⟩, hko⟩
set_option maxHeartbeats 1000000 in
/-- the same while it prepares -/
theorem zero_prep {w0 w : World} {c t wb kb mb n K : Nat} {sv : Value} {kd left rd : Int} {fs : List TFile} {bkl : Nat} {qs : List Peer} {S : CSt} {Bk : List ByteArray} (hW : Wst w0 c wb kb n K sv w) (h : PrC w0 c t kb mb n (fullM 0) [] qs S Bk w) (hBk : Bk.length ≤ bkl) (hx : Xt kd left rd (.pointer none) fs JNone S w) (hlf : 2 ≤ left ∧ left ≤ 1000) (hq : ∀ i (hi : i < qs.length), i < n → PNew qs[i]) :
    ZeroCalls wb w (fun w' => ∃ sv, PSt w0 c t wb kb mb n K sv (prepsL n) kd (left - 1) rd fs bkl 0 w') := by
  intro o1 m0 m1 m2 m3 m4 m5 m6 m7 m8 m9 m10 m11 m12 m13 tx k0 k1 k2
  have hn1 := h.pr.n1
  have hn9 := h.pr.n9
  have hc0 := h.pr.c0
  refine (zero_any w0 c wb kb n K sv (fun L w' => L = prepsL n ∧ ∃ S, PrC w0 c t kb mb n (fullM 0) [] qs S Bk w' ∧ Xt kd (left - 1) rd (.pointer none) fs JNone S w') ⟨?_, ?_, ?_, ?_⟩ hn1 o1 m0 m1 m2 m3 m4 m5 m6 m7 m8 m9 m10 m11 m12 m13 tx k0 k1 k2 w hW ?_).mono ?_
  · rintro L w1 w2 ⟨hL, S1, a1, a2⟩ hk hb
    exact ⟨hL, S1, a1.keep hk hb (by decide) (by decide) (by decide), side_xt jside_none _ _ _ _ a2 rfl rfl rfl rfl rfl rfl (hk.1.mono (by decide))⟩
  · rintro L w1 ⟨hL, S1, a1, _⟩
    exact ⟨S1, a1.pr.at_, a1.id_, a1.pr.n_, a1.bal⟩
  · rintro L w1 ⟨rfl, _⟩ m hm
    obtain ⟨k, hk, rfl⟩ := List.mem_iff_getElem.1 hm
    obtain ⟨h1, h2⟩ := prepsL_at (List.getElem?_eq_getElem hk)
    rw [h2]
    exact fit_prep h1 hn9
  · rintro L w1 ⟨rfl, _⟩
    rw [prepsL_length]; omega
  · intro w1 hb1
    have b1 := h.below hb1
    have bx := side_xt jside_none _ _ _ _ hx rfl rfl rfl rfl rfl rfl (KeepT.of_below hb1)
    have hW1 := hW.step (Ts := []) (KeepT.of_below hb1) (Abv.of_below hb1) (by simp) (by simp)
    obtain ⟨kc, kg, ad, cap, q1, q2, q3⟩ := bx.call.ex
    refine (tick_wait c t kc S (fullM 0) n w1 b1.pr.at_ b1.pr.n_ hn1 hn9 b1.pr.promised b1.pr.tally b1.ph q1 (by rw [bx.left]; exact hlf.1) (by rw [bx.left]; exact hlf.2)).mono ?_
    rintro e w2 ⟨v, rfl, hr, hC, hT⟩
    rw [fullM_zero, lackers_none n hn9, List.length_range, askVals_preps S b1.id_ b1.bal] at hr
    have hk2 := keep_coord b1.pr.at_ hT
    have hab : Abv w0 w1 w2 := Abv.of_touch hT (fun q _ e => by omega)
    have hW2 := hW1.step hk2.1 hab (by decide) (by decide)
    obtain ⟨cs, r1, r2⟩ := b1.pr.row
    exact ⟨v, prepsL n, rfl, by rw [prepsL_length]; exact hr, ⟨rfl, { S with left := S.left - 1 }, ⟨⟨hC, b1.pr.n_, hn1, hn9, b1.pr.promised, b1.pr.tally.keep hk2.1 (by decide), ⟨cs, hk2.1.2 _ _ _ _ _ _ (by decide) r1, r2⟩, b1.pr.peers, b1.pr.qs9, hW2.below, hc0, b1.pr.t0⟩, hk2.2 _ _ _ b1.bok, b1.id_, b1.bal, b1.bk_, b1.ph, b1.fetch, b1.img, b1.flat⟩, bx.tick jside_none hk2⟩, hW2, keep_op hk2.1 (by decide)⟩
  · rintro e w' ⟨r, v, L, rfl, hko, hW', hr, rfl, S', a1, a2⟩
    refine ⟨r, rfl, ⟨v, fun _ => ⟨S', [], qs, Bk, hW', a1, hr, hBk, a2, Mix.all hq, by simp⟩, fun hw => ?_⟩, hko⟩
    rw [fullM_zero, zeroM_won n (by omega)] at hw
    cases hw
end Go.Proofs.YtaemlplcjjbamaaGreatDoor
