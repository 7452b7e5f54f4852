/- CoordServes' coordinator between its calls: how a backup and the list are asked, and what rounds then answer them. Condition: all vaults stand alike. The statement's fresh, telling where its book lies: CoordServes' coordinator begins idle. No condition. Arguments that are slices of files, opened: what the row's frame tells. No condition. Arguments that are slices of a client's calls, opened. No condition. -/
import Derived.Test.YtaemlplcjjbamaaGreatDoorBCScript3
import Derived.Test.YtaemlplcjjbamaaGreatDoorBAsk
import Derived.Test.YtaemlplcjjbamaaGreatDoorBClone
import Derived.Test.YtaemlplcjjbamaaGreatDoorRows
import Derived.ChangeSame
import Derived.Deep.Slices
import Derived.Deep.Fields
import Derived.ProofKit
namespace Go.Proofs.YtaemlplcjjbamaaGreatDoor
open Go Go.RowKit
set_option linter.unusedVariables false
def XErr (E : Int) (S : CSt) (w : World) : Prop := S.call = .pointer none ∧ S.job = .pointer none ∧ S.yes = .pointer none ∧ S.read = 0 ∧ ∃ a : Nat, S.answer = .pointer (some ⟨a, 0, none⟩) ∧ answerAt w a E 0 0
theorem StL.called {w0 : World} {c wb kb mb n K : Nat} {sv : Value} {L : List MG} {l : List Ent} {I : List (Int × List UInt8)} {ps : List Peer} {S : CSt} {Bk : List ByteArray} {w w' : World} (h : StL w0 c wb kb mb n K sv L l I ps S Bk w) (a y p d : Value) (b : Int) (hC : CoordAt w' c { S with call := a, left := b, yes := y, pruned := p, answer := d }) (hT : Touch (fun k => k = c) w w') :
    StL w0 c wb kb mb n K sv L l I ps { S with call := a, left := b, yes := y, pruned := p, answer := d } Bk w' ∧ KeepOA w w' := by
  have hk := keep_coord h.ld.at_ hT
  have hc0 := h.ws.c0
  exact ⟨⟨h.ws.step hk.1 (Abv.of_touch hT (fun q _ e => by omega)) (by decide) (by decide), ⟨hC, h.ld.id_, h.ld.n_, h.ld.bk_, h.ld.bal, h.ld.ph, h.ld.fl, h.ld.top, h.ld.again, h.ld.fetch, h.ld.prs, h.ld.len, hk.1.2 _ _ _ _ _ _ (by decide) h.ld.cho, hk.1.2 _ _ _ _ _ _ (by decide) h.ld.img, hk.2 _ _ _ h.ld.bok⟩, hk.1.2 _ _ _ _ _ _ (by decide) h.sn⟩, keep_op hk.1 (by decide)⟩
theorem PrC.called {w0 : World} {c t wb kb mb n K : Nat} {sv : Value} {m : List Bool} {ps : List Prom} {qs : List Peer} {S : CSt} {Bk : List ByteArray} {w w' : World} (hW : Wst w0 c wb kb n K sv w) (h : PrC w0 c t kb mb n m ps qs S Bk w) (a y p d : Value) (b : Int) (hC : CoordAt w' c { S with call := a, left := b, yes := y, pruned := p, answer := d }) (hT : Touch (fun k => k = c) w w') :
    Wst w0 c wb kb n K sv w' ∧ PrC w0 c t kb mb n m ps qs { S with call := a, left := b, yes := y, pruned := p, answer := d } Bk w' ∧ KeepOA w w' := by
  have hk := keep_coord h.pr.at_ hT
  have hc0 := hW.c0
  have hW' := hW.step hk.1 (Abv.of_touch hT (fun q _ e => by omega)) (by decide) (by decide)
  obtain ⟨cs, r1, r2⟩ := h.pr.row
  exact ⟨hW', ⟨⟨hC, h.pr.n_, h.pr.n1, h.pr.n9, h.pr.promised, h.pr.tally.keep hk.1 (by decide), ⟨cs, hk.1.2 _ _ _ _ _ _ (by decide) r1, r2⟩, h.pr.peers, h.pr.qs9, hW'.below, h.pr.c0, h.pr.t0⟩, hk.2 _ _ _ h.bok, h.id_, h.bal, h.bk_, h.ph, h.fetch, h.img, h.flat⟩, keep_op hk.1 (by decide)⟩
theorem md_ask {w0 w : World} {c wb kb mb n K base : Nat} {sv : Value} {L : List MG} {l : List Ent} {I : List (Int × List UInt8)} {bkl : Nat} {PP : List Peer → Prop} {x : Option Addr} {y : Nat} {fs : List TFile} (kd kg : Int) (hn1 : 1 ≤ n) (h : Md w0 c wb kb mb n K sv L l I XIdle bkl PP w) (hr : w.ownsRow base 65 3 (.slice x fs.length y) fs.length (tfsVals fs)) (hf : FewFiles fs) :
    Calls Tryz.prog 9 #[.pointer (some ⟨c, 0, none⟩), .agg #[.int .i64 kd, .int .i64 kg, .slice x fs.length y]] w fun e w' => e = .returned (.int .i64 0) ∧ KeepOA w w' ∧
      (rightE kd kg fs = 0 → Md w0 c wb kb mb n K sv L l I (Xt kd 40 0 (.pointer none) fs JNone) bkl PP w') ∧ (rightE kd kg fs ≠ 0 → Md w0 c wb kb mb n K sv L l I (XErr (rightE kd kg fs)) bkl PP w') := by
  obtain ⟨S, ps, Bk, a1, a2, ⟨x1, x2, x3, x4, x5⟩, a4⟩ := h
  refine (ask_full c S kd kg _ fs base (rightE kd kg fs) w a1.ld.at_ (by rw [a1.ld.n_]; omega) (by rw [a1.ld.ph]; rfl) x1 x5 x2 hr (by have := hf.1; omega) (rightSays hr a1.ld.at_ hf)).mono ?_
  rintro e w' ⟨he, hT, hy, hn⟩
  refine ⟨he, keep_op (keep_coord a1.ld.at_ hT).1 (by decide), fun hE => ?_, fun hE => ?_⟩
  · obtain ⟨k, ad, cap, hz, hC, hB, hrow⟩ := hy hE
    obtain ⟨d1, d2⟩ := a1.called (.pointer (some ⟨k, 0, none⟩)) S.yes S.pruned S.answer 40 hC hT
    exact ⟨_, ps, Bk, d1, a2, ⟨⟨⟨k, kg, ad, cap, rfl, hB, hrow⟩⟩, rfl, x4, x3, x5, x2⟩, a4⟩
  · obtain ⟨v, a, hz, hA, hC⟩ := hn hE
    obtain ⟨d1, d2⟩ := a1.called (.pointer none) (.pointer none) (.pointer none) (.pointer (some ⟨a, 0, none⟩)) 40 hC hT
    exact ⟨_, ps, Bk, d1, a2, ⟨rfl, x2, rfl, x4, a, rfl, hA⟩, a4⟩
theorem md_take_err {w0 w : World} {c wb kb mb n K : Nat} {sv : Value} {L : List MG} {l : List Ent} {I : List (Int × List UInt8)} {E : Int} {bkl : Nat} {PP : List Peer → Prop} (hn1 : 1 ≤ n) (h : Md w0 c wb kb mb n K sv L l I (XErr E) bkl PP w) :
    Calls Tryz.prog 13 #[.pointer (some ⟨c, 0, none⟩)] w fun e w' => e = .returned (.tuple #[.agg #[.int .i64 E, .int .i64 0, .int .i64 0, .slice none 0 0, .slice none 0 0], .bool true]) ∧ Md w0 c wb kb mb n K sv L l I XIdle bkl PP w' ∧ KeepOA w w' := by
  obtain ⟨S, ps, Bk, a1, a2, ⟨x1, x2, x3, x4, a, x5, x6⟩, a4⟩ := h
  refine (take_some c a S E 0 0 none none 0 0 0 0 w a1.ld.at_ (by rw [a1.ld.n_]; omega) x5 x6).mono ?_
  rintro e w' ⟨rfl, hC, hT⟩
  obtain ⟨h1, h2⟩ := a1.taken hC hT
  exact ⟨rfl, ⟨_, ps, Bk, h1, a2, ⟨x1, x2, x3, x4, rfl⟩, a4⟩, h2⟩
/-- it prepares, and nothing waits -/
def PIx (w0 : World) (c t wb kb mb n K bkl : Nat) (X : CSt → World → Prop) (w : World) : Prop :=
  ∃ S qs Bk sv, Wst w0 c wb kb n K sv w ∧ PrC w0 c t kb mb n (fullM 0) [] qs S Bk w ∧ Bk.length ≤ bkl ∧ X S w ∧ AllP n PNew qs
theorem PIx.keepA {w0 w w' : World} {c t wb kb mb n K bkl : Nat} (h : PIx w0 c t wb kb mb n K bkl XIdle w) (k : KA w0 w w') : PIx w0 c t wb kb mb n K bkl XIdle w' := by
  obtain ⟨S, qs, Bk, sv, h1, h2, h3, h4, h5⟩ := h
  have h1' := h1.step k.1.1 k.2 (by decide) (by decide)
  exact ⟨S, qs, Bk, sv, h1', h2.keep k.1 h1'.below (by decide) (by decide) (by decide), h3, h4, h5⟩
theorem pi_ask {w0 w : World} {c t wb kb mb n K bkl base : Nat} {x : Option Addr} {y : Nat} {fs : List TFile} (kd kg : Int) (h : PIx w0 c t wb kb mb n K bkl XIdle w) (hr : w.ownsRow base 65 3 (.slice x fs.length y) fs.length (tfsVals fs)) (hf : FewFiles fs) :
    Calls Tryz.prog 9 #[.pointer (some ⟨c, 0, none⟩), .agg #[.int .i64 kd, .int .i64 kg, .slice x fs.length y]] w fun e w' => e = .returned (.int .i64 0) ∧ KeepOA w w' ∧
      (rightE kd kg fs = 0 → PA0 w0 c t wb kb mb n K bkl kd fs w') ∧ (rightE kd kg fs ≠ 0 → PIx w0 c t wb kb mb n K bkl (XErr (rightE kd kg fs)) w') := by
  obtain ⟨S, qs, Bk, sv, h1, h2, h3, ⟨x1, x2, x3, x4, x5⟩, h5⟩ := h
  have hn1 := h2.pr.n1
  refine (ask_full c S kd kg _ fs base (rightE kd kg fs) w h2.pr.at_ (by rw [h2.pr.n_]; omega) (by rw [h2.ph]; rfl) x1 x5 x2 hr (by have := hf.1; omega) (rightSays hr h2.pr.at_ hf)).mono ?_
  rintro e w' ⟨he, hT, hy, hn⟩
  refine ⟨he, keep_op (keep_coord h2.pr.at_ hT).1 (by decide), fun hE => ?_, fun hE => ?_⟩
  · obtain ⟨k, ad, cap, hz, hC, hB, hrow⟩ := hy hE
    obtain ⟨d1, d2, d3⟩ := h2.called h1 (.pointer (some ⟨k, 0, none⟩)) S.yes S.pruned S.answer 40 hC hT
    exact ⟨_, qs, Bk, sv, d1, d2, h3, ⟨⟨⟨k, kg, ad, cap, rfl, hB, hrow⟩⟩, rfl, x4, x3, x5, x2⟩, h5⟩
  · obtain ⟨v, a, hz, hA, hC⟩ := hn hE
    obtain ⟨d1, d2, d3⟩ := h2.called h1 (.pointer none) (.pointer none) (.pointer none) (.pointer (some ⟨a, 0, none⟩)) 40 hC hT
    exact ⟨_, qs, Bk, sv, d1, d2, h3, ⟨rfl, x2, rfl, x4, a, rfl, hA⟩, h5⟩
theorem pi_take_err {w0 w : World} {c t wb kb mb n K bkl : Nat} {E : Int} (h : PIx w0 c t wb kb mb n K bkl (XErr E) w) :
    Calls Tryz.prog 13 #[.pointer (some ⟨c, 0, none⟩)] w fun e w' => e = .returned (.tuple #[.agg #[.int .i64 E, .int .i64 0, .int .i64 0, .slice none 0 0, .slice none 0 0], .bool true]) ∧ PIx w0 c t wb kb mb n K bkl XIdle w' ∧ KeepOA w w' := by
  obtain ⟨S, qs, Bk, sv, h1, h2, h3, ⟨x1, x2, x3, x4, a, x5, x6⟩, h5⟩ := h
  have hn1 := h2.pr.n1
  refine (take_some c a S E 0 0 none none 0 0 0 0 w h2.pr.at_ (by rw [h2.pr.n_]; omega) x5 x6).mono ?_
  rintro e w' ⟨rfl, hC, hT⟩
  obtain ⟨d1, d2, d3⟩ := h2.called h1 S.call S.yes S.pruned (.pointer none) S.left hC hT
  exact ⟨rfl, ⟨_, qs, Bk, sv, d1, d2, h3, ⟨x1, x2, x3, x4, rfl⟩, h5⟩, d3⟩
theorem pa0_take {w0 w : World} {c t wb kb mb n K bkl : Nat} {kd : Int} {fs : List TFile} (h : PA0 w0 c t wb kb mb n K bkl kd fs w) :
    Calls Tryz.prog 13 #[.pointer (some ⟨c, 0, none⟩)] w fun e w' => e = .returned noAnswer ∧ PA0 w0 c t wb kb mb n K bkl kd fs w' ∧ KeepOA w w' := by
  have h0 := h
  obtain ⟨S, qs, Bk, sv, h1, h2, h3, h4, h5⟩ := h0
  have hn1 := h2.pr.n1
  refine (take_none c S w h2.pr.at_ (by rw [h2.pr.n_]; omega) h4.ans).mono ?_
  rintro e w' ⟨he, hb⟩
  exact ⟨he, h.keepA (KA.of_below hb), KeepOA.of_below hb⟩
/-- between two calls: g generations are chosen -/
def Idl (w0 : World) (c t wb kb mb n K bkl g : Nat) (w : World) : Prop :=
  (g = 0 ∧ PIx w0 c t wb kb mb n K bkl XIdle w) ∨
  ∃ (q : Nat) (l : List Ent) (I : List (Int × List UInt8)) (mq : ByteArray) (sv : Value) (L : List MG), g = q + 1 ∧ l.length = g ∧ ChosenOk l ∧ ImgOk I g ∧ mkF l (q : Int) = some mq ∧ mq.size = 32 ∧ Md w0 c wb kb mb n K sv L l I XIdle bkl (AllP n (PGot (q : Int) mq)) w
theorem Idl.keepA {w0 w w' : World} {c t wb kb mb n K bkl g : Nat} (h : Idl w0 c t wb kb mb n K bkl g w) (hb : KA w0 w w') : Idl w0 c t wb kb mb n K bkl g w' := by
  rcases h with ⟨h1, h2⟩ | ⟨q, l, I, mq, sv, L, h1, h2, h3, h4, h5, h6, h7⟩
  · exact Or.inl ⟨h1, h2.keepA hb⟩
  · exact Or.inr ⟨q, l, I, mq, sv, L, h1, h2, h3, h4, h5, h6, h7.keepA sideA_idle hb⟩
theorem Idl.rw {w0 w : World} {c t wb kb mb n K bkl g : Nat} (h : Idl w0 c t wb kb mb n K bkl g w) : RW w0 c wb kb n w := by
  rcases h with ⟨h1, _, _, _, sv, h2, _⟩ | ⟨q, l, I, mq, sv, L, h1, h2, h3, h4, h5, h6, h7⟩
  · exact ⟨K, sv, h2⟩
  · exact h7.rw
theorem be_idl {w0 w : World} {c t wb kb mb n K bkl : Nat} {fs : List TFile} {l : List Ent} {I : List (Int × List UInt8)} (hb : Bkp w0 mb n K bkl fs l I) (h : BE w0 c wb kb mb n K bkl fs l I w) : Idl w0 c t wb kb mb n (K + 5000) (bkl + 1100000) (l.length + 1) w := by
  obtain ⟨mk, sv, L, h1, h2⟩ := h
  have hc := hb.cho.snoc h1
  obtain ⟨mk', e1, e2, e3⟩ := hc.mkF (i := l.length) (by rw [List.length_append]; simp)
  rw [List.getElem?_append_right (Nat.le_refl _)] at e2
  simp at e2
  subst e2
  exact Or.inr ⟨l.length, _, _, mk, sv, L, rfl, by rw [List.length_append]; rfl, hc, hb.img.snoc (imgL_small hb.f8 (fun f hf => (hb.fsz f hf).2) hb.chk), e1, h1, h2⟩
theorem Idl.mono {w0 w : World} {c t wb kb mb n K K' bkl bkl' g : Nat} (h : Idl w0 c t wb kb mb n K bkl g w) (hK : K ≤ K') (hb : bkl ≤ bkl') : Idl w0 c t wb kb mb n K' bkl' g w := by
  rcases h with ⟨h1, S, qs, Bk, sv, a1, a2, a3, a4⟩ | ⟨q, l, I, mq, sv, L, h1, h2, h3, h4, h5, h6, h7⟩
  · exact Or.inl ⟨h1, S, qs, Bk, sv, a1.mono hK, a2, by omega, a4⟩
  · exact Or.inr ⟨q, l, I, mq, sv, L, h1, h2, h3, h4, h5, h6, (h7.imp hK (fun _ x => x)).bkl hb⟩
/-- a call waits; T rounds answer it -/
def Waits (w0 : World) (c wb kb n T ml : Nat) (G : Int) (R : World → Prop) (w : World) : Prop :=
  ∃ A M E, Rounds w0 c wb kb n T ml G A M E ∧ A 0 w ∧ (∀ w1, E w1 → R w1) ∧
    ∀ w1, A 0 w1 → Calls Tryz.prog 13 #[.pointer (some ⟨c, 0, none⟩)] w1 fun e w' => e = .returned noAnswer ∧ A 0 w' ∧ KeepOA w1 w'
/-- a call was answered at once -/
def Fails (c : Nat) (E : Int) (R : World → Prop) (w : World) : Prop :=
  Calls Tryz.prog 13 #[.pointer (some ⟨c, 0, none⟩)] w fun e w' => e = .returned (.tuple #[.agg #[.int .i64 E, .int .i64 0, .int .i64 0, .slice none 0 0, .slice none 0 0], .bool true]) ∧ R w' ∧ KeepOA w w'
theorem idl_backup {w0 w : World} {c t wb kb mb n K bkl g base : Nat} {x : Option Addr} {y : Nat} {fs : List TFile} (kg : Int) (hn1 : 1 ≤ n) (hn9 : n ≤ 9) (hg : g ≤ 4) (hbk : bkl ≤ 300000000) (hK : K ≤ 800000) (hm0 : w0.heap.size ≤ mb) (h : Idl w0 c t wb kb mb n K bkl g w) (hr : w.ownsRow base 65 3 (.slice x fs.length y) fs.length (tfsVals fs)) (hf : FewFiles fs) :
    Calls Tryz.prog 9 #[.pointer (some ⟨c, 0, none⟩), .agg #[.int .i64 1, .int .i64 kg, .slice x fs.length y]] w fun e w' => e = .returned (.int .i64 0) ∧ KeepOA w w' ∧ RW w0 c wb kb n w' ∧
      (checkE fs = 0 → Waits w0 c wb kb n 3 0 (g : Int) (Idl w0 c t wb kb mb n (K + 5000) (bkl + 1100000) (g + 1)) w') ∧ (checkE fs ≠ 0 → Fails c (checkE fs) (Idl w0 c t wb kb mb n K bkl g) w') := by
  have hre : rightE 1 kg fs = checkE fs := by unfold rightE; rw [if_pos rfl]
  rcases h with ⟨h1, h2⟩ | ⟨q, l, I, mq, sv, L, h1, h2, h3, h4, h5, h6, h7⟩
  · refine (pi_ask 1 kg h2 hr hf).mono ?_
    rintro e w' ⟨he, hk, hy, hn⟩
    rw [hre] at hy hn
    refine ⟨he, hk, ?_, fun hE => ?_, fun hE => ?_⟩
    · by_cases hE : checkE fs = 0
      · obtain ⟨_, _, _, sv, a, _⟩ := hy hE; exact ⟨K, sv, a⟩
      · obtain ⟨_, _, _, sv, a, _⟩ := hn hE; exact ⟨K, sv, a⟩
    · have hb : Bkp w0 mb n K bkl fs [] [] := ⟨hn1, hn9, by simp, hbk, hK, hm0, ChosenOk.nil, ImgOk.nil, hf.1, hf.2, hE⟩
      subst h1
      exact ⟨_, _, _, rounds_first hb, hy hE, fun w1 he => be_idl hb he, fun w1 ha => pa0_take ha⟩
    · refine (pi_take_err (hn hE)).mono ?_
      rintro e w2 ⟨he, a, b⟩
      exact ⟨he, Or.inl ⟨h1, a⟩, b⟩
  · refine (md_ask 1 kg hn1 h7 hr hf).mono ?_
    rintro e w' ⟨he, hk, hy, hn⟩
    rw [hre] at hy hn
    refine ⟨he, hk, ?_, fun hE => ?_, fun hE => ?_⟩
    · by_cases hE : checkE fs = 0
      · exact (hy hE).rw
      · exact (hn hE).rw
    · have hb : Bkp w0 mb n K bkl fs l I := ⟨hn1, hn9, by omega, hbk, hK, hm0, h3, by rw [h2]; exact h4, hf.1, hf.2, hE⟩
      have hR := rounds_more (c := c) (wb := wb) (kb := kb) hb (by omega) h5 h6
      have hE2 : ∀ w1, BE w0 c wb kb mb n K bkl fs l I w1 → Idl w0 c t wb kb mb n (K + 5000) (bkl + 1100000) (l.length + 1) w1 := fun w1 he => be_idl hb he
      rw [h2] at hR hE2
      refine ⟨_, _, _, hR, ⟨sv, L, hy hE⟩, hE2, fun w1 ha => ?_⟩
      obtain ⟨sv1, L1, ha⟩ := ha
      refine (md_take_none (side_xt jside_none) hn1 (fun S w hx => hx.ans) ha).mono ?_
      rintro e w2 ⟨he, a, b⟩
      exact ⟨he, ⟨sv1, L1, a⟩, b⟩
    · refine (md_take_err hn1 (hn hE)).mono ?_
      rintro e w2 ⟨he, a, b⟩
      exact ⟨he, Or.inr ⟨q, l, I, mq, sv, L, h1, h2, h3, h4, h5, h6, a⟩, b⟩
theorem idl_list {w0 w : World} {c t wb kb mb n K bkl g : Nat} (hn1 : 1 ≤ n) (hn9 : n ≤ 9) (hg : g ≤ 5) (hbk : bkl ≤ 300000000) (hK : K ≤ 800000) (hm0 : w0.heap.size ≤ mb) (h : Idl w0 c t wb kb mb n K bkl g w) :
    Calls Tryz.prog 9 #[.pointer (some ⟨c, 0, none⟩), .agg #[.int .i64 4, .int .i64 0, .slice none 0 0]] w fun e w' => e = .returned (.int .i64 0) ∧ KeepOA w w' ∧ RW w0 c wb kb n w' ∧ ∃ T, Waits w0 c wb kb n T g (g : Int) (RW w0 c wb kb n) w' := by
  have hre : rightE 4 0 [] = 0 := rfl
  have hr : w.ownsRow 0 65 3 (.slice none ([] : List TFile).length 0) ([] : List TFile).length (tfsVals []) := World.ownsRow_nil _ _ _ _
  have hf : FewFiles [] := ⟨by simp, fun f hf => by cases hf⟩
  rcases h with ⟨h1, h2⟩ | ⟨q, l, I, mq, sv, L, h1, h2, h3, h4, h5, h6, h7⟩
  · refine (pi_ask 4 0 h2 hr hf).mono ?_
    rintro e w' ⟨he, hk, hy, hn⟩
    have hA := hy hre
    subst h1
    refine ⟨he, hk, ?_, 3, _, _, _, list_first hn1 hn9 hbk hm0 hK, hA, fun w1 he => he, fun w1 ha => pa0_take ha⟩
    obtain ⟨_, _, _, sv, a, _⟩ := hA
    exact ⟨K, sv, a⟩
  · refine (md_ask 4 0 hn1 h7 hr hf).mono ?_
    rintro e w' ⟨he, hk, hy, hn⟩
    have hA := hy hre
    have hR := list_more (c := c) (wb := wb) (kb := kb) (mb := mb) (K := K) (bkl := bkl) (I := I) hn1 hn9 (by omega) hbk hm0 hK (by omega) h5 h6
    rw [h2] at hR
    refine ⟨he, hk, hA.rw, 2, _, _, _, hR, ⟨sv, L, hA⟩, fun w1 he => he, fun w1 ha => ?_⟩
    obtain ⟨sv1, L1, ha⟩ := ha
    refine (md_take_none (side_xt jside_none) hn1 (fun S w hx => hx.ans) ha).mono ?_
    rintro e w2 ⟨he, a, b⟩
    exact ⟨he, ⟨sv1, L1, a⟩, b⟩
end Go.Proofs.YtaemlplcjjbamaaGreatDoor
namespace Go.Proofs.YtaemlplcjjbamaaGreatDoor
open Go Go.RowKit Go.WideMaps Go.Maps
set_option linter.unusedVariables false
def FreshFull (id n stamp : Int) (w : World) (e : Ending) (w' : World) : Prop :=
  ∃ wb bk mp c t, e = .returned (.pointer (some ⟨wb, 0, none⟩)) ∧ Blk w' wb (worldVals c bk id n) 43 ∧ BookIs w' bk mp [] ∧
    CoordAt w' c (newCoord id n stamp (.pointer (some ⟨bk, 0, none⟩)) (.pointer (some ⟨t, 0, none⟩))) ∧ TallyAt w' t n.toNat (List.replicate 9 false) ∧ w.heap.size ≤ wb ∧ w.heap.size ≤ c ∧ w.heap.size ≤ t ∧ w.heap.size ≤ mp ∧ Below w.heap.size w w'
set_option maxRecDepth 100000 in
set_option maxHeartbeats 2000000 in
theorem fresh_full (id n stamp : Int) (w : World) (h : NewOk id n stamp) : Calls Tryz.prog 6 #[.int .i64 id, .int .i64 n, .int .i64 stamp] w (FreshFull id n stamp w) := by
  have hn1 := h.2.1
  have hn9 := h.2.2
  have H := Lib.hid h
  clear h
  go_enter Tryz.func6, Tryz.ntmps6
  go_wp2_with fail
  refine (ideal_book w).mono ?_
  rintro e w1 ⟨bk, mp, rfl, hb0, hm0, hbk, hb1⟩
  have Hbk := Lib.hid hbk
  clear hbk
  go_wp2_with fail
  refine (newCoord_any id n stamp bk mp _ H.out Hbk.out.at_).mono ?_
  rintro e w2 ⟨c, t, rfl, hc0, ht0, hc, ht, hb2⟩
  have Hc := Lib.hid hc
  have Ht := Lib.hid ht
  have Hbk2 := Lib.hid (Hbk.out.below hb2)
  have hs1 := hb1.size
  have hb02 := below_step hb1 hb2
  clear hc ht hb1 hb2 Hbk
  go_wp2_with fail
  go_ret
  exact ⟨w2.heap.size, bk, mp, c, t, rfl, Blk.new w2 (worldVals c bk id n) _, Hbk2.out.below ((Below.refl w2.heap.size w2).alloc (Nat.le_refl _) _), ⟨Hc.out.1.alloc _, Hc.out.2⟩, ⟨Ht.out.1.alloc _, Ht.out.2⟩, hb02.size, by omega, by omega, hm0, hb02.alloc hb02.size _⟩
theorem idl_fresh {w w1 : World} {n c t wb kb mb : Nat} (hn1 : 1 ≤ n) (hn9 : n ≤ 9) (hW : Blk w1 wb (worldVals c kb 1 (n : Int)) 43) (hbk : BookIs w1 kb mb []) (hc : CoordAt w1 c (newCoord 1 (n : Int) 4 (.pointer (some ⟨kb, 0, none⟩)) (.pointer (some ⟨t, 0, none⟩)))) (ht : TallyAt w1 t (n : Int).toNat (List.replicate 9 false))
    (hwb : w.heap.size ≤ wb) (hc0 : w.heap.size ≤ c) (ht0 : w.heap.size ≤ t) (hb : Below w.heap.size w w1) : Idl w c t wb kb mb n 0 0 0 w1 := by
  refine Or.inl ⟨rfl, _, List.replicate 9 noPeer, [], .slice none 0 0, ⟨⟨.slice none 0 0, 0, [], hW, World.ownsRow_nil _ _ _ _, by omega⟩, hb, hwb, hc0⟩, ⟨⟨hc, rfl, hn1, hn9, rfl, by rw [fullM_zero]; exact ht, ⟨[], World.ownsRow_nil _ _ _ _, rfl⟩, rfl, rfl, hb, hc0, ht0⟩, hbk, rfl, rfl, rfl, rfl, rfl, rfl, fun p hp => by cases hp⟩, by simp, ⟨rfl, rfl, rfl, rfl, rfl⟩, ?_⟩
  intro i hi hin
  rw [List.getElem_replicate]
  exact ⟨rfl, rfl, by decide⟩
end Go.Proofs.YtaemlplcjjbamaaGreatDoor
namespace Go.Proofs.YtaemlplcjjbamaaGreatDoor
open Go.RowKit Go.ChangeShapes Go.WideShapes Go.Deep
theorem list_of_all {α : Type} (p : Nat → α → Prop) (n : Nat) (h : ∀ i, i < n → ∃ x, p i x) : ∃ L : List α, L.length = n ∧ ∀ i (hi : i < L.length), p i L[i] := by
  induction n with
  | zero => exact ⟨[], rfl, fun i hi => absurd hi (by simp)⟩
  | succ n ih =>
    obtain ⟨L, hl, hL⟩ := ih (fun i hi => h i (by omega))
    obtain ⟨x, hx⟩ := h n (by omega)
    refine ⟨L ++ [x], by simp [hl], fun i hi => ?_⟩
    by_cases hin : i < L.length
    · rw [List.getElem_append_left hin]; exact hL i hin
    · have : i = L.length := by simp at hi; omega
      subst this
      rw [List.getElem_append_right (Nat.le_refl _)]
      simp
      rw [hl]; exact hx
section
variable {H : Type} {enc : TypeId × Value → H} {P : Program} {w : World} {base : Nat} {spare : Nat → Bool} {held : Bool}
theorem open_slice_fields {t e : TypeId} {fs : Array Field} {fuel : Nat} {cs : List Value} {x : DataW H × List MemPlace} (ht : P.underlying t = some (.slice e)) (he : P.underlying e = some (.struct fs))
    (hone : oneCellFields P fs = true) (hC : P.cellsOf e = fs.size) (h : DataW.trod enc P w base spare held fuel t cs = some x) :
    ∃ (ad : Option Addr) (len cap : Nat), cs = [.slice ad len cap] ∧ len ≤ cap ∧ cap ≤ maxLen ∧ (ad = none → len = 0) ∧
      ∀ i, i < len → ∃ a, ad = some a ∧ ∀ (j : Nat) (f : Field), fs[j]? = some f → ∃ (v : Value) (y : DataW H × List MemPlace) (n : Nat), w.cell? (a.add (i * fs.size + j)) = some v ∧ DataW.trod enc P w base spare held n f.type [v] = some y := by
  rcases open_slice ht h with ⟨h0, _⟩ | ⟨a, len, cap, m, n, D, Pl, hcs, hb, hl, hm, hmm, hx, hi⟩
  · exact ⟨none, 0, 0, h0, Nat.le_refl _, Nat.zero_le _, fun _ => rfl, fun i hi => absurd hi (by omega)⟩
  · refine ⟨some a, len, cap, hcs, hl, hm, fun h => by (cases h), fun i hil => ⟨a, rfl, fun j f hj => ?_⟩⟩
    have him : i < m := by rw [hmm]; split <;> omega
    obtain ⟨cs', hc, ht'⟩ := hi i him
    rw [hC] at hc
    obtain ⟨ys, n', hn', hy, hlen, hyl, hf⟩ := DataW.trod_struct he ht'
    obtain ⟨_, hcl, hat⟩ := World.cells?_some hc
    obtain ⟨ho, hk⟩ := hone_of hone j f hj
    have hjl : j < fs.size := (Array.getElem?_eq_some_iff.1 hj).1
    have hcell := hat j hjl
    have hv : cs'[j]? = some (cs'[j]'(by omega)) := List.getElem?_eq_getElem (by omega)
    have h1 := hf j f hj
    rw [ho, hk] at h1
    have hone' : (cs'.drop j).take 1 = [cs'[j]'(by omega)] := by
      rw [List.drop_eq_getElem_cons (by omega)]
      rfl
    rw [hone'] at h1
    have hys : ys[j]? = some (ys[j]'(by omega)) := List.getElem?_eq_getElem (by omega)
    refine ⟨_, _, n', ?_, h1.trans hys⟩
    rw [← Go.Deep.add_add, hcell, hv]
end
theorem addr_none {w : World} {a : Addr} {v : Value} (h : w.cell? a = some v) : ∃ b off, a = ⟨b, off, none⟩ ∧ b < w.heap.size ∧ ∀ j, a.add j = ⟨b, off + j, none⟩ := by
  have hlt := World.block_lt_of_cell? w _ h
  obtain ⟨b, off, spot⟩ := a
  have hspot : spot = none := by simpa using World.cell?_spot h
  subst hspot
  refine ⟨b, off, rfl, hlt, fun j => ?_⟩
  unfold Addr.add
  split
  · subst j; rfl
  · rfl
/-- the fields of each element, the slice's place told by block and offset -/
theorem open_fields_at {H : Type} {enc : TypeId × Value → H} {P : Program} {w : World} {base : Nat} {spare : Nat → Bool} {held : Bool}
    {t e : TypeId} {fs : Array Field} {fuel : Nat} {cs : List Value} {x : DataW H × List MemPlace} (ht : P.underlying t = some (.slice e)) (he : P.underlying e = some (.struct fs))
    (hone : oneCellFields P fs = true) (hC : P.cellsOf e = fs.size) (hpos : 0 < fs.size) (h : DataW.trod enc P w base spare held fuel t cs = some x) :
    ∃ (ad : Option Addr) (len cap : Nat), cs = [.slice ad len cap] ∧ len ≤ cap ∧ cap ≤ maxLen ∧ (ad = none → len = 0) ∧
      (0 < len → ∃ b off, ad = some ⟨b, off, none⟩ ∧ b < w.heap.size ∧ ∀ i, i < len → ∀ (j : Nat) (f : Field), fs[j]? = some f → ∃ (v : Value) (y : DataW H × List MemPlace) (n : Nat), w.cell? ⟨b, off + (i * fs.size + j), none⟩ = some v ∧ DataW.trod enc P w base spare held n f.type [v] = some y) := by
  obtain ⟨ad, len, cap, rfl, hl, hm, hnil, hall⟩ := open_slice_fields ht he hone hC h
  refine ⟨ad, len, cap, rfl, hl, hm, hnil, fun h0 => ?_⟩
  obtain ⟨a, rfl, hf⟩ := hall 0 h0
  obtain ⟨v0, y0, n0, c0, t0⟩ := hf 0 (fs[0]'hpos) (Array.getElem?_eq_getElem hpos)
  have c0' : w.cell? a = some v0 := by
    have e : a.add (0 * fs.size + 0) = a := by simp [Addr.add]
    rw [← e]; exact c0
  obtain ⟨b, off, rfl, hb, hadd⟩ := addr_none c0'
  refine ⟨b, off, rfl, hb, fun i hi j f hj => ?_⟩
  obtain ⟨a', ha', hf'⟩ := hall i hi
  cases ha'
  obtain ⟨v, y, n, c, t⟩ := hf' j f hj
  rw [hadd] at c
  exact ⟨v, y, n, c, t⟩
theorem open_files {H : Type} {enc : TypeId × Value → H} {w : World} {base : Nat} {spare : Nat → Bool} {held : Bool} {fuel : Nat} {cs : List Value} {x : DataW H × List MemPlace} (h : DataW.trod enc Tryz.prog w base spare held fuel 31 cs = some x) :
    ∃ (ad : Option Addr) (cap : Nat) (L : List TFile), cs = [.slice ad L.length cap] ∧ L.length ≤ cap ∧ cap ≤ maxLen ∧ TfsAt w ad L ∧ ∀ f ∈ L, f.path.size ≤ maxLen ∧ f.data.size ≤ maxLen := by
  obtain ⟨ad, len, cap, rfl, hl, hm, hnil, hall⟩ := open_fields_at Tryz.underlying31 Tryz.underlying65 (by kernel_rfl) (by kernel_rfl) (by decide) h
  by_cases h0 : len = 0
  · subst h0; exact ⟨ad, cap, [], rfl, Nat.zero_le _, hm, Or.inl rfl, fun f hf => by cases hf⟩
  · obtain ⟨b, off, rfl, hb, hf⟩ := hall (by omega)
    obtain ⟨L, hL, hp⟩ := list_of_all (fun i (x : TFile) => (w.cell? ⟨b, off + i * 3, none⟩ = some (.string x.path) ∧ w.cell? ⟨b, off + i * 3 + 1, none⟩ = some (.int .i64 x.mode) ∧ w.cell? ⟨b, off + i * 3 + 2, none⟩ = some (.string x.data)) ∧ x.path.size ≤ maxLen ∧ x.data.size ≤ maxLen) len (by
      intro i hi
      obtain ⟨v0, y0, n0, c0, t0⟩ := hf i hi 0 _ rfl
      obtain ⟨v1, y1, n1, c1, t1⟩ := hf i hi 1 _ rfl
      obtain ⟨v2, y2, n2, c2, t2⟩ := hf i hi 2 _ rfl
      obtain ⟨z0, e0, _, s0⟩ := DataW.trod_string Tryz.underlying9 t0
      obtain ⟨z1, e1, _, _⟩ := DataW.trod_int Tryz.underlying3 t1
      obtain ⟨z2, e2, _, s2⟩ := DataW.trod_string Tryz.underlying9 t2
      simp at e0 e1 e2
      subst e0 e1 e2
      exact ⟨⟨z0, z1, z2⟩, ⟨c0, c1, c2⟩, s0, s2⟩)
    refine ⟨_, cap, L, by rw [hL], by omega, hm, Or.inr ⟨b, off, rfl, hb, fun k hk => (hp k hk).1⟩, fun f hf => ?_⟩
    obtain ⟨k, hk, rfl⟩ := List.getElem_of_mem hf
    exact (hp k hk).2
end Go.Proofs.YtaemlplcjjbamaaGreatDoor
namespace Go.Proofs.YtaemlplcjjbamaaGreatDoor
open Go.RowKit Go.ChangeShapes Go.WideShapes Go.Deep
/-- a client's call lies at o -/
def CallAt (w : World) (b o : Nat) (kd kg : Int) (ad : Option Addr) (cap : Nat) (fs : List TFile) : Prop :=
  (w.cell? ⟨b, o, none⟩ = some (.int .i64 kd) ∧ w.cell? ⟨b, o + 1, none⟩ = some (.int .i64 kg) ∧ w.cell? ⟨b, o + 2, none⟩ = some (.slice ad fs.length cap)) ∧ TfsAt w ad fs ∧ fs.length ≤ maxLen ∧ ∀ f ∈ fs, f.path.size ≤ maxLen ∧ f.data.size ≤ maxLen
def CallsAt (w : World) (ad : Option Addr) (n : Nat) : Prop := n = 0 ∨ ∃ b off, ad = some ⟨b, off, none⟩ ∧ b < w.heap.size ∧ ∀ i, i < n → ∃ (kd kg : Int) (a : Option Addr) (cap : Nat) (fs : List TFile), CallAt w b (off + i * 3) kd kg a cap fs
theorem CallAt.below {w w' : World} {b o : Nat} {kd kg : Int} {ad : Option Addr} {cap : Nat} {fs : List TFile} (h : CallAt w b o kd kg ad cap fs) (hb : b < w.heap.size) (hB : Below w.heap.size w w') : CallAt w' b o kd kg ad cap fs := by
  obtain ⟨⟨h1, h2, h3⟩, h4, h5, h6⟩ := h
  have e : ∀ j, w'.cell? ⟨b, j, none⟩ = w.cell? ⟨b, j, none⟩ := fun j => hB.cell (p := ⟨b, j, none⟩) hb
  exact ⟨⟨(e _).trans h1, (e _).trans h2, (e _).trans h3⟩, h4.below hB, h5, h6⟩
theorem open_calls {H : Type} {enc : TypeId × Value → H} {w : World} {base : Nat} {spare : Nat → Bool} {held : Bool} {fuel : Nat} {cs : List Value} {x : DataW H × List MemPlace} (h : DataW.trod enc Tryz.prog w base spare held fuel 58 cs = some x) :
    ∃ (ad : Option Addr) (len cap : Nat), cs = [.slice ad len cap] ∧ len ≤ cap ∧ cap ≤ maxLen ∧ CallsAt w ad len := by
  obtain ⟨ad, len, cap, rfl, hl, hm, hnil, hall⟩ := open_fields_at Tryz.underlying58 Tryz.underlying33 (by kernel_rfl) (by kernel_rfl) (by decide) h
  refine ⟨ad, len, cap, rfl, hl, hm, ?_⟩
  by_cases h0 : len = 0
  · exact Or.inl h0
  · obtain ⟨b, off, rfl, hb, hf⟩ := hall (by omega)
    refine Or.inr ⟨b, off, rfl, hb, fun i hi => ?_⟩
    obtain ⟨v0, y0, n0, c0, t0⟩ := hf i hi 0 _ rfl
    obtain ⟨v1, y1, n1, c1, t1⟩ := hf i hi 1 _ rfl
    obtain ⟨v2, y2, n2, c2, t2⟩ := hf i hi 2 _ rfl
    obtain ⟨z0, e0, _, _⟩ := DataW.trod_int Tryz.underlying3 t0
    obtain ⟨z1, e1, _, _⟩ := DataW.trod_int Tryz.underlying3 t1
    obtain ⟨a2, cap2, fs, e2, hl2, hm2, ht2, hs2⟩ := open_files t2
    simp at e0 e1 e2
    subst e0 e1 e2
    exact ⟨z0, z1, a2, cap2, fs, ⟨c0, c1, c2⟩, ht2, by omega, hs2⟩
end Go.Proofs.YtaemlplcjjbamaaGreatDoor
