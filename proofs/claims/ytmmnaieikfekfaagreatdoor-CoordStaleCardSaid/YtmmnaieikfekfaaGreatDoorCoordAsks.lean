/- The walk of CoordAsks: which calls are taken, and what is told at once of those that are wrong. No condition. -/
import Derived.Test.YtmmnaieikfekfaaGreatDoorRight
import Derived.Test.YtmmnaieikfekfaaGreatDoorFewCall
import Derived.Test.YtmmnaieikfekfaaGreatDoorRefImage
import Derived.StillTailTactics
import Derived.Deep.CutBlock
namespace Go.Proofs.YtmmnaieikfekfaaGreatDoor
open Go Go.RowKit
set_option linter.unusedVariables false

set_option maxRecDepth 100000 in
theorem ask_busy (b : Nat) (c : CSt) (kind gen : Int) (x : Option Addr) (n y : Nat) (w : World) (h : CoordAt w b c) (hn1 : 1 ≤ c.n) (hph : (c.phase == 0) = false) (hb : (∃ k, c.call = .pointer (some ⟨k, 0, none⟩)) ∨ c.call = .pointer none ∧ ∃ a, c.answer = .pointer (some ⟨a, 0, none⟩)) :
    Calls Tryz.prog 23 #[.pointer (some ⟨b, 0, none⟩), .agg #[.int .i64 kind, .int .i64 gen, .slice x n y]] w fun e w' => e = .returned (.int .i64 15) ∧ Below w.heap.size w w' := by
  have hbl := h.1.lt
  have h4 : w.cell? ⟨b, 4, none⟩ = some (.int .i64 c.phase) := h.hd 4 (by omega)
  have c86 : w.cell? ⟨b, 86, none⟩ = some c.call := h.ft 2
  have c91 : w.cell? ⟨b, 91, none⟩ = some c.answer := h.ft 7
  have H := Lib.hid h
  have HB0 := Lib.hid ((Below.refl w.heap.size w).alloc (Nat.le_refl _) (.cells #[.int .i64 kind, .int .i64 gen, .slice x n y] 40))
  clear h
  rcases hb with ⟨k, hk⟩ | ⟨hk, a, ha⟩
  · rw [hk] at c86
    clear hk
    go_enter Tryz.func23, Tryz.ntmps23
    go_wp2_with fail
    refine (none_any b c _ (H.out.alloc _) hn1).mono ?_
    rintro e wx ⟨rfl, rfl⟩
    go_wp2_with fail
    go_ret
    exact ⟨rfl, HB0.out⟩
  · rw [hk] at c86
    rw [ha] at c91
    clear hk ha
    go_enter Tryz.func23, Tryz.ntmps23
    go_wp2_with fail
    refine (none_any b c _ (H.out.alloc _) hn1).mono ?_
    rintro e wx ⟨rfl, rfl⟩
    go_wp2_with fail
    go_ret
    exact ⟨rfl, HB0.out⟩

/-- a coordinator, the statement's struct and its second call beside it, all behind w0 -/
structure Ak (w0 : World) (c wb q : Nat) (V B : List Value) (S : CSt) (w : World) : Prop where
  at_ : CoordAt w c S
  blk : Blk w wb V 49
  arg : Blk w q B 40
  below : Below w0.heap.size w0 w
  c0 : w0.heap.size ≤ c
theorem Ak.quiet {w0 : World} {c wb q : Nat} {V B : List Value} {S : CSt} {w w' : World} (h : Ak w0 c wb q V B S w) (hb : Below w.heap.size w w') : Ak w0 c wb q V B S w' :=
  ⟨h.at_.below hb, h.blk.below hb, h.arg.below hb, below_step h.below hb, h.c0⟩
theorem Ak.touch {w0 : World} {c wb q : Nat} {V B : List Value} {S S' : CSt} {w w' : World} (h : Ak w0 c wb q V B S w) (hC : CoordAt w' c S') (hT : Touch (fun k => k = c) w w') : Ak w0 c wb q V B S' w' :=
  ⟨hC, h.blk.touch hT (fun e => h.blk.ne h.at_.1 (by decide) e), h.arg.touch hT (fun e => h.arg.ne h.at_.1 (by decide) e), h.below.trans (hT.below h.below.size (fun k hk e => by have := h.c0; omega)), h.c0⟩

theorem Ak.cells {w0 : World} {c wb q : Nat} {k0 k1 k2 b1 b2 b3 b4 b5 b6 : Value} {S : CSt} {w : World} (h : Ak w0 c wb q [.pointer (some ⟨c, 0, none⟩), b1, b2, b3, b4, b5, b6] [k0, k1, k2] S w) :
    w.cell? ⟨wb, 0, none⟩ = some (.pointer (some ⟨c, 0, none⟩)) ∧ w.cell? ⟨q, 0, none⟩ = some k0 ∧ w.cell? ⟨q, 1, none⟩ = some k1 ∧ w.cell? ⟨q, 2, none⟩ = some k2 := ⟨h.blk.cell 0, h.arg.cell 0, h.arg.cell 1, h.arg.cell 2⟩
/-- a call was taken, and waits -/
def TakenS (S : CSt) : Prop := S.n = 3 ∧ (S.phase == 0) = false ∧ S.job = .pointer none ∧ (∃ k, S.call = .pointer (some ⟨k, 0, none⟩)) ∧ S.answer = .pointer none
/-- a call was answered, and the answer waits -/
def ToldS (S : CSt) (a : Nat) : Prop := S.n = 3 ∧ (S.phase == 0) = false ∧ S.job = .pointer none ∧ S.call = .pointer none ∧ S.answer = .pointer (some ⟨a, 0, none⟩)
/-- nothing waits -/
def FreeS (S : CSt) : Prop := S.n = 3 ∧ (S.phase == 0) = false ∧ S.job = .pointer none ∧ S.call = .pointer none ∧ S.answer = .pointer none

set_option maxRecDepth 100000 in
set_option maxHeartbeats 8000000 in
theorem coordAsks_walk (ka ga : Int) (aa : Option Addr) (ca : Nat) (fa : List TFile) (kb gb : Int) (ab : Option Addr) (cb : Nat) (fb : List TFile) (w : World)
    (hla : fa.length ≤ maxLen) (ha : TfsAt w aa fa) (hsa : ∀ f ∈ fa, f.path.size ≤ maxLen ∧ f.data.size ≤ maxLen) (hlb : fb.length ≤ maxLen) (hb : TfsAt w ab fb) (hsb : ∀ f ∈ fb, f.path.size ≤ maxLen ∧ f.data.size ≤ maxLen) :
    Calls Tryz.prog 4 #[.agg #[.int .i64 ka, .int .i64 ga, .slice aa fa.length ca], .agg #[.int .i64 kb, .int .i64 gb, .slice ab fb.length cb]] w fun e w' => e = .returned (.bool true) ∧ Below w.heap.size w w' := by
  have Ha := Lib.hid ha
  have Hb := Lib.hid hb
  have Hfa := Lib.hid (show FewFiles (fewL fa) from ⟨by rw [fewL_len]; omega, fun f hf => ⟨by have := (fewL_ok hsa f hf).1; unfold maxLen at this; omega, (fewL_ok hsa f hf).2⟩⟩)
  have HFa := Lib.hid (fun w' (h' : Below w.heap.size w w') => few_any ka ga aa ca fa w' (ha.below h') hla)
  have HFb := Lib.hid (fun w' (h' : Below w.heap.size w w') => few_any kb gb ab cb fb w' (hb.below h') hlb)
  have HRI := Lib.hid (fun (x : Option Addr) (y : Nat) w' (h' : TfsAt w' x (fewL fa)) => refImageOf_few x y (fewL fa) w' h' Hfa.out.1 Hfa.out.2)
  have Hfb := Lib.hid (show FewFiles (fewL fb) from ⟨by rw [fewL_len]; omega, fun f hf => ⟨by have := (fewL_ok hsb f hf).1; unfold maxLen at this; omega, (fewL_ok hsb f hf).2⟩⟩)
  have hb0 := ((Below.refl w.heap.size w).alloc (Nat.le_refl _) (.cells #[.int .i64 ka, .int .i64 ga, .slice aa fa.length ca] 40)).alloc (by simp) (.cells #[.int .i64 kb, .int .i64 gb, .slice ab fb.length cb] 40)
  have Q1 := (Blk.new w [.int .i64 ka, .int .i64 ga, .slice aa fa.length ca] 40).alloc (.cells #[.int .i64 kb, .int .i64 gb, .slice ab fb.length cb] 40)
  have Q2 := Blk.new (w.alloc (.cells #[.int .i64 ka, .int .i64 ga, .slice aa fa.length ca] 40)) [.int .i64 kb, .int .i64 gb, .slice ab fb.length cb] 40
  rw [show (w.alloc (.cells #[.int .i64 ka, .int .i64 ga, .slice aa fa.length ca] 40)).heap.size = w.heap.size + 1 by simp] at Q2
  have HB0 := Lib.hid hb0
  have HQ1 := Lib.hid Q1
  have HQ2 := Lib.hid Q2
  clear ha hb hsa hsb hla hlb hb0 Q1 Q2 Ha Hb
  go_enter Tryz.func4, Tryz.ntmps4
  go_wp2_with fail
  have Q1 := HQ1.out
  have Q2 := HQ2.out
  have B0 := HB0.out
  generalize (w.alloc (.cells #[.int .i64 ka, .int .i64 ga, .slice aa fa.length ca] 40)).alloc (.cells #[.int .i64 kb, .int .i64 gb, .slice ab fb.length cb] 40) = w0 at Q1 Q2 B0 ⊢
  obtain ⟨q, hq⟩ : ∃ q, q = w.heap.size := ⟨_, rfl⟩
  rw [← hq] at Q1 Q2 ⊢
  have Hq := Lib.hid hq
  have HQ1' := Lib.hid Q1
  have HQ2' := Lib.hid Q2
  have HB0' := Lib.hid B0
  clear HQ1 HQ2 HB0 Q1 Q2 B0 hq
  refine (fresh_ok 0 3 1 _ (by unfold NewOk BalOk; omega)).mono ?_
  rintro e w1 ⟨wb, bk, mp, c, t, rfl, hW, hbk, hmp, hc, ht, hwb0, hc0, ht0, hb1⟩
  have HA1 := Lib.hid (show Ak w c wb (q + 1) (worldVals c bk 0 3) _ _ w1 from ⟨hc, hW, HQ2'.out.below hb1, HB0'.out.trans (hb1.mono HB0'.out.size), Nat.le_trans HB0'.out.size hc0⟩)
  have p0 : w1.cell? ⟨q, 0, none⟩ = some (.int .i64 ka) := (HQ1'.out.below hb1).cell 0
  have p1 : w1.cell? ⟨q, 1, none⟩ = some (.int .i64 ga) := (HQ1'.out.below hb1).cell 1
  have p2 : w1.cell? ⟨q, 2, none⟩ = some (.slice aa fa.length ca) := (HQ1'.out.below hb1).cell 2
  clear hW hbk hmp hc ht hb1 HQ1' HQ2' HB0'
  go_wp2_with fail
  refine (HFa.out w1 HA1.out.below).mono ?_
  rintro e w2 ⟨xa, ya, rfl, hown, hb2⟩
  have HA2 := Lib.hid (HA1.out.quiet hb2)
  have HR2 := Lib.hid (row_base hown (Nat.zero_le _))
  clear hown hb2 HA1 p0 p1 p2 HFa
  have HQ6 := Lib.hid (Blk.new w2 [.int .i64 ka, .int .i64 ga, .slice xa (fewL fa).length ya] 40)
  have HA3 := Lib.hid (HA2.out.quiet ((Below.refl w2.heap.size w2).alloc (Nat.le_refl _) (.cells #[.int .i64 ka, .int .i64 ga, .slice xa (fewL fa).length ya] 40)))
  have HR3 := Lib.hid (HR2.out.alloc (.cells #[.int .i64 ka, .int .i64 ga, .slice xa (fewL fa).length ya] 40))
  have hsz2 : w2.heap.size < (w2.alloc (.cells #[.int .i64 ka, .int .i64 ga, .slice xa (fewL fa).length ya] 40)).heap.size := by simp
  have e0 : (w2.alloc (.cells #[.int .i64 ka, .int .i64 ga, .slice xa (fewL fa).length ya] 40)).cell? ⟨w2.heap.size, 0, none⟩ = some (.int .i64 ka) := HQ6.out.cell 0
  go_upto_block 0 with fail
  generalize w2.alloc (.cells #[.int .i64 ka, .int .i64 ga, .slice xa (fewL fa).length ya] 40) = w3 at HQ6 HA3 HR3 e0 hsz2 ⊢
  generalize w2.heap.size = g at HQ6 e0 hsz2 ⊢
  clear HA2 HR2 e0
  have e1 : w3.cell? ⟨g, 1, none⟩ = some (.int .i64 ga) := HQ6.out.cell 1
  have e2 : w3.cell? ⟨g, 2, none⟩ = some (.slice xa (fewL fa).length ya) := HQ6.out.cell 2
  go_cut [7] (fun v wx => v = .int .i64 (rightE ka ga (fewL fa)) ∧ Hid (Ak w c wb (q + 1) (worldVals c bk 0 3) [.int .i64 kb, .int .i64 gb, .slice ab fb.length cb] (newCoord 0 3 1 (.pointer (some ⟨bk, 0, none⟩)) (.pointer (some ⟨t, 0, none⟩))) wx) ∧ Hid (Blk wx g [.int .i64 ka, .int .i64 ga, .slice xa (fewL fa).length ya] 40) ∧ Hid (wx.ownsRow 0 101 3 (.slice xa (fewL fa).length ya) (fewL fa).length (tfsVals (fewL fa))))
  case first =>
    by_cases h1 : ka = 1
    · have hE := Lib.hid (show rightE ka ga (fewL fa) = checkE (fewL fa) by unfold rightE; rw [if_pos h1])
      have k1 : (ka == 1) = true := by rw [beq_iff_eq]; exact h1
      have HI := Lib.hid (HRI.out xa ya w3 (tfsAt_own HR3.out))
      clear h1
      go_wp2_with fail
      refine HI.out.mono ?_
      rintro e w4 ⟨s, rfl, _, hb4⟩
      have HA4 := Lib.hid (HA3.out.quiet hb4)
      have HQ4 := Lib.hid (HQ6.out.below hb4)
      have HR4 := Lib.hid (ownsRow_below HR3.out hb4)
      go_wp2_with fail
      go_meet
      exact ⟨val_int hE.out.symm, HA4, HQ4, HR4⟩
    · have k1 : (ka == 1) = false := beq_eq_false_iff_ne.2 h1
      by_cases h35 : ka = 3 ∨ ka = 5
      · by_cases hg : ga < 0
        · have hE := Lib.hid (show rightE ka ga (fewL fa) = 2 by unfold rightE; rw [if_neg h1, if_pos h35, if_pos hg])
          rcases h35 with h | h
          · have k3 : (ka == 3) = true := by rw [beq_iff_eq]; exact h
            clear h h1
            go_wp2_with fail
            go_meet
            exact ⟨val_int hE.out.symm, HA3, HQ6, HR3⟩
          · have k3 : (ka == 3) = false := by rw [h]; rfl
            have k5 : (ka == 5) = true := by rw [beq_iff_eq]; exact h
            clear h h1
            go_wp2_with fail
            go_meet
            exact ⟨val_int hE.out.symm, HA3, HQ6, HR3⟩
        · have hE := Lib.hid (show rightE ka ga (fewL fa) = 0 by unfold rightE; rw [if_neg h1, if_pos h35, if_neg hg])
          rcases h35 with h | h
          · have k3 : (ka == 3) = true := by rw [beq_iff_eq]; exact h
            clear h h1
            go_wp2_with fail
            go_meet
            exact ⟨val_int hE.out.symm, HA3, HQ6, HR3⟩
          · have k3 : (ka == 3) = false := by rw [h]; rfl
            have k5 : (ka == 5) = true := by rw [beq_iff_eq]; exact h
            clear h h1
            go_wp2_with fail
            go_meet
            exact ⟨val_int hE.out.symm, HA3, HQ6, HR3⟩
      · have k3 : (ka == 3) = false := beq_eq_false_iff_ne.2 (fun e => h35 (Or.inl e))
        have k5 : (ka == 5) = false := beq_eq_false_iff_ne.2 (fun e => h35 (Or.inr e))
        by_cases h246 : ka = 2 ∨ ka = 4 ∨ ka = 6
        · have hE := Lib.hid (show rightE ka ga (fewL fa) = 0 by unfold rightE; rw [if_neg h1, if_neg h35, if_pos h246])
          clear h1 h35
          rcases h246 with h | h | h
          · have k2 : (ka == 2) = true := by rw [beq_iff_eq]; exact h
            clear h
            go_wp2_with fail
            go_meet
            exact ⟨val_int hE.out.symm, HA3, HQ6, HR3⟩
          · have k2 : (ka == 2) = false := by rw [h]; rfl
            have k4 : (ka == 4) = true := by rw [beq_iff_eq]; exact h
            clear h
            go_wp2_with fail
            go_meet
            exact ⟨val_int hE.out.symm, HA3, HQ6, HR3⟩
          · have k2 : (ka == 2) = false := by rw [h]; rfl
            have k4 : (ka == 4) = false := by rw [h]; rfl
            have k6 : (ka == 6) = true := by rw [beq_iff_eq]; exact h
            clear h
            go_wp2_with fail
            go_meet
            exact ⟨val_int hE.out.symm, HA3, HQ6, HR3⟩
        · have hE := Lib.hid (show rightE ka ga (fewL fa) = 1 by unfold rightE; rw [if_neg h1, if_neg h35, if_neg h246])
          have k2 : (ka == 2) = false := beq_eq_false_iff_ne.2 (fun e => h246 (Or.inl e))
          have k4 : (ka == 4) = false := beq_eq_false_iff_ne.2 (fun e => h246 (Or.inr (Or.inl e)))
          have k6 : (ka == 6) = false := beq_eq_false_iff_ne.2 (fun e => h246 (Or.inr (Or.inr e)))
          clear h1 h35 h246
          go_wp2_with fail
          go_meet
          exact ⟨val_int hE.out.symm, HA3, HQ6, HR3⟩
  case rest =>
    obtain ⟨rfl, HA, HQ, HR⟩ := hcut
    clear HA3 HQ6 HR3 e1 e2 hsz2 HRI
    have hE0 := Lib.hid (show rightE ka ga (fewL fa) = rightE ka ga (fewL fa) from rfl)
    have hwb : wc.cell? ⟨wb, 0, none⟩ = some (.pointer (some ⟨c, 0, none⟩)) := HA.out.blk.cell 0
    have g0 : wc.cell? ⟨g, 0, none⟩ = some (.int .i64 ka) := HQ.out.cell 0
    have g1 : wc.cell? ⟨g, 1, none⟩ = some (.int .i64 ga) := HQ.out.cell 1
    have g2 : wc.cell? ⟨g, 2, none⟩ = some (.slice xa (fewL fa).length ya) := HQ.out.cell 2
    go_upto_region 17 with fail
    go_still_tail 5, (by kernel_rfl)
    change wpList _ _ _ _ _ wc.drew
    have HA4 := Lib.hid (HA.out.quiet (Below.refl _ _).drew)
    have HR4 := Lib.hid (ownsRow_below HR.out (Below.refl _ _).drew)
    generalize wc.drew = w4 at HA4 HR4 ⊢
    clear HA HQ HR hwb g0 g1 g2
    have hR := rightSays (kind := ka) (gen := ga) HR4.out HA4.out.at_ Hfa.out
    generalize rightE ka ga (fewL fa) = E at hR hE0 ⊢
    have HK := Lib.hid ((ask_any c _ ka ga (.slice xa (fewL fa).length ya) (fewL fa) 0 E w4 HA4.out.at_ (show (1 : Int) ≤ 3 by omega) rfl rfl rfl rfl HR4.out (by rw [fewL_len]; omega) hR).mono (R' := fun e w' => e = .returned (.int .i64 0) ∧ Hid ((E = 0 → ∃ S, TakenS S ∧ Ak w c wb (q + 1) (worldVals c bk 0 3) [.int .i64 kb, .int .i64 gb, .slice ab fb.length cb] S w') ∧ (E ≠ 0 → ∃ S a, ToldS S a ∧ answerAt w' a E 0 0 ∧ Ak w c wb (q + 1) (worldVals c bk 0 3) [.int .i64 kb, .int .i64 gb, .slice ab fb.length cb] S w'))) (fun e w' ⟨he, hT, hy, hn⟩ => ⟨he, Lib.hid ⟨fun h => by
      obtain ⟨k, hC⟩ := hy h
      exact ⟨_, ⟨rfl, rfl, rfl, ⟨k, rfl⟩, rfl⟩, HA4.out.touch hC hT⟩, fun h => by
      obtain ⟨v, a, _, hA, hC⟩ := hn h
      exact ⟨_, a, ⟨rfl, rfl, rfl, rfl, rfl⟩, hA, HA4.out.touch hC hT⟩⟩⟩))
    clear hR HA4 HR4 hE0
    go_wp2_with fail
    refine HK.out.mono ?_
    rintro e w5 ⟨rfl, HX⟩
    clear HK
    by_cases hE : E = 0
    · obtain ⟨S, hS, hA5⟩ := HX.out.1 hE
      have HS := Lib.hid hS
      have HA5 := Lib.hid hA5
      have HF2 := Lib.hid (show ∀ w', Ak w c wb (q + 1) (worldVals c bk 0 3) [.int .i64 kb, .int .i64 gb, .slice ab fb.length cb] S w' → Calls Tryz.prog 21 #[.agg #[.int .i64 kb, .int .i64 gb, .slice ab fb.length cb]] w' fun e w'' => ∃ x n y, e = .returned (.agg #[.int .i64 kb, .int .i64 gb, .slice x n y]) ∧ Ak w c wb (q + 1) (worldVals c bk 0 3) [.int .i64 kb, .int .i64 gb, .slice ab fb.length cb] S w'' from fun w' h => (HFb.out w' h.below).mono (fun e w'' ⟨x, y, he, _, hb⟩ => ⟨x, _, y, he, h.quiet hb⟩))
      have HAB := Lib.hid (show ∀ w' x n y, Ak w c wb (q + 1) (worldVals c bk 0 3) [.int .i64 kb, .int .i64 gb, .slice ab fb.length cb] S w' → Calls Tryz.prog 23 #[.pointer (some ⟨c, 0, none⟩), .agg #[.int .i64 kb, .int .i64 gb, .slice x n y]] w' fun e w'' => e = .returned (.int .i64 15) ∧ Ak w c wb (q + 1) (worldVals c bk 0 3) [.int .i64 kb, .int .i64 gb, .slice ab fb.length cb] S w'' from fun w' x n y h => (ask_busy c S kb gb x n y w' h.at_ (by have := HS.out.1; omega) HS.out.2.1 (Or.inl HS.out.2.2.2.1)).mono (fun e w'' ⟨he, hb⟩ => ⟨he, h.quiet hb⟩))
      have HKA := Lib.hid (show ∀ w', Ak w c wb (q + 1) (worldVals c bk 0 3) [.int .i64 kb, .int .i64 gb, .slice ab fb.length cb] S w' → w'.cell? ⟨wb, 0, none⟩ = some (.pointer (some ⟨c, 0, none⟩)) ∧ w'.cell? ⟨q + 1, 0, none⟩ = some (.int .i64 kb) ∧ w'.cell? ⟨q + 1, 1, none⟩ = some (.int .i64 gb) ∧ w'.cell? ⟨q + 1, 2, none⟩ = some (.slice ab fb.length cb) from fun w' h => h.cells)
      have hE2 : (E != 0) = false := by rw [hE]; rfl
      clear hE HX hS hA5 HFb
      go_upto_region 18 with fail
      have hA0 := HA5.out.quiet (Below.refl _ _).drew
      have hc0 := HKA.out _ hA0
      go_region_held3 (fun w' => w'.cell? ⟨wb, 0, none⟩ = some (.pointer (some ⟨c, 0, none⟩)) ∧ w'.cell? ⟨q + 1, 0, none⟩ = some (.int .i64 kb) ∧ w'.cell? ⟨q + 1, 1, none⟩ = some (.int .i64 gb) ∧ w'.cell? ⟨q + 1, 2, none⟩ = some (.slice ab fb.length cb))
        (first | exact hc0 | exact HKA.out _ (by assumption) | go_keep)
        (first
          | (go_at_call 21; refine (HF2.out _ (by assumption)).mono ?_; rintro e w6 ⟨x6, n6, y6, rfl, hA6⟩)
          | (go_at_call 23; refine (HAB.out _ _ _ _ (by assumption)).mono ?_; rintro e w7 ⟨rfl, hA7⟩))
      have HA7 := Lib.hid hA7
      have hwb7 : w7.cell? ⟨wb, 0, none⟩ = some (.pointer (some ⟨c, 0, none⟩)) := (HKA.out _ hA7).1
      clear hA6 hA7 hA0 hc0 HA5
      go_upto_region 19 with fail
      go_wp2_with fail
      refine (take_none c S w7 HA7.out.at_ (by have := HS.out.1; omega) HS.out.2.2.2.2).mono ?_
      rintro e w8 ⟨rfl, hb8⟩
      have HA8 := Lib.hid (HA7.out.quiet hb8)
      clear HA7 hwb7 hb8
      simp only [noAnswer]
      have HA9 := Lib.hid (HA8.out.quiet ((Below.refl w8.heap.size w8).alloc (Nat.le_refl _) (.cells #[.int .i64 0, .int .i64 0, .int .i64 0, .slice none 0 0, .slice none 0 0] 34)))
      have hE3 : ((0 : Int) != E) = false := by
        have : E = 0 := by simpa using hE2
        rw [this]; rfl
      go_upto_region 22 with fail
      generalize w8.alloc (.cells #[.int .i64 0, .int .i64 0, .int .i64 0, .slice none 0 0, .slice none 0 0] 34) = w9 at HA9 ⊢
      clear HA8
      have hA0 := HA9.out.quiet (Below.refl _ _).drew
      have hc0 := HKA.out _ hA0
      go_region_held3 (fun w' => w'.cell? ⟨wb, 0, none⟩ = some (.pointer (some ⟨c, 0, none⟩)) ∧ w'.cell? ⟨q + 1, 0, none⟩ = some (.int .i64 kb) ∧ w'.cell? ⟨q + 1, 1, none⟩ = some (.int .i64 gb) ∧ w'.cell? ⟨q + 1, 2, none⟩ = some (.slice ab fb.length cb))
        (first | exact hc0 | exact HKA.out _ (by assumption) | go_keep)
        (first
          | (go_at_call 21; refine (HF2.out _ (by assumption)).mono ?_; rintro e w6 ⟨x6, n6, y6, rfl, hA6⟩)
          | (go_at_call 23; refine (HAB.out _ _ _ _ (by assumption)).mono ?_; rintro e w7 ⟨rfl, hA7⟩))
      have HB7 := Lib.hid hA7.below
      clear hA6 hA7 hA0 hc0 HA9
      go_wp2_with fail
      refine (awake_any _).mono ?_
      rintro e w10 ⟨rfl, hb10⟩
      go_wp2_with fail
      go_ret
      exact ⟨rfl, below_step HB7.out hb10⟩
    · obtain ⟨S, a, hS, hans, hA5⟩ := HX.out.2 hE
      have HS := Lib.hid hS
      have HA5 := Lib.hid hA5
      have Hans := Lib.hid hans
      have HF2 := Lib.hid (show ∀ w' S', Ak w c wb (q + 1) (worldVals c bk 0 3) [.int .i64 kb, .int .i64 gb, .slice ab fb.length cb] S' w' → Calls Tryz.prog 21 #[.agg #[.int .i64 kb, .int .i64 gb, .slice ab fb.length cb]] w' fun e w'' => ∃ x y, e = .returned (.agg #[.int .i64 kb, .int .i64 gb, .slice x (fewL fb).length y]) ∧ Ak w c wb (q + 1) (worldVals c bk 0 3) [.int .i64 kb, .int .i64 gb, .slice ab fb.length cb] S' w'' ∧ Below w'.heap.size w' w'' ∧ Hid (w''.ownsRow 0 101 3 (.slice x (fewL fb).length y) (fewL fb).length (tfsVals (fewL fb))) from fun w' S' h => (HFb.out w' h.below).mono (fun e w'' ⟨x, y, he, hrow, hb⟩ => ⟨x, y, he, h.quiet hb, hb, Lib.hid (row_base hrow (Nat.zero_le _))⟩))
      have HAB := Lib.hid (show ∀ w' x n y, Ak w c wb (q + 1) (worldVals c bk 0 3) [.int .i64 kb, .int .i64 gb, .slice ab fb.length cb] S w' → Calls Tryz.prog 23 #[.pointer (some ⟨c, 0, none⟩), .agg #[.int .i64 kb, .int .i64 gb, .slice x n y]] w' fun e w'' => e = .returned (.int .i64 15) ∧ Ak w c wb (q + 1) (worldVals c bk 0 3) [.int .i64 kb, .int .i64 gb, .slice ab fb.length cb] S w'' ∧ Below w'.heap.size w' w'' from fun w' x n y h => (ask_busy c S kb gb x n y w' h.at_ (by have := HS.out.1; omega) HS.out.2.1 (Or.inr ⟨HS.out.2.2.2.1, a, HS.out.2.2.2.2⟩)).mono (fun e w'' ⟨he, hb⟩ => ⟨he, h.quiet hb, hb⟩))
      have HAF := Lib.hid (show ∀ w' x y S', FreeS S' → Hid (w'.ownsRow 0 101 3 (.slice x (fewL fb).length y) (fewL fb).length (tfsVals (fewL fb))) → Ak w c wb (q + 1) (worldVals c bk 0 3) [.int .i64 kb, .int .i64 gb, .slice ab fb.length cb] S' w' → Calls Tryz.prog 23 #[.pointer (some ⟨c, 0, none⟩), .agg #[.int .i64 kb, .int .i64 gb, .slice x (fewL fb).length y]] w' fun e w'' => e = .returned (.int .i64 0) ∧ ∃ S'', Ak w c wb (q + 1) (worldVals c bk 0 3) [.int .i64 kb, .int .i64 gb, .slice ab fb.length cb] S'' w'' from fun w' x y S' hF hr h => (ask_any c S' kb gb (.slice x (fewL fb).length y) (fewL fb) 0 _ w' h.at_ (by have := hF.1; omega) hF.2.1 hF.2.2.2.1 hF.2.2.2.2 hF.2.2.1 hr.out (by rw [fewL_len]; omega) (rightSays hr.out h.at_ Hfb.out)).mono (fun e w'' ⟨he, hT, hy, hn⟩ => ⟨he, by
        by_cases h0 : rightE kb gb (fewL fb) = 0
        · obtain ⟨k, hC⟩ := hy h0
          exact ⟨_, h.touch hC hT⟩
        · obtain ⟨v, a, _, _, hC⟩ := hn h0
          exact ⟨_, h.touch hC hT⟩⟩))
      have HKA := Lib.hid (show ∀ w' S', Ak w c wb (q + 1) (worldVals c bk 0 3) [.int .i64 kb, .int .i64 gb, .slice ab fb.length cb] S' w' → w'.cell? ⟨wb, 0, none⟩ = some (.pointer (some ⟨c, 0, none⟩)) ∧ w'.cell? ⟨q + 1, 0, none⟩ = some (.int .i64 kb) ∧ w'.cell? ⟨q + 1, 1, none⟩ = some (.int .i64 gb) ∧ w'.cell? ⟨q + 1, 2, none⟩ = some (.slice ab fb.length cb) from fun w' S' h => h.cells)
      have hE2 : (E != 0) = true := by rw [bne_iff_ne]; exact hE
      clear hE HX hS hA5 hans HFb
      go_upto_region 18 with fail
      have hA0 := HA5.out.quiet (Below.refl _ _).drew
      have hc0 := HKA.out _ _ hA0
      have hbs : Below w5.heap.size w5 w5.drew := (Below.refl _ _).drew
      go_region_held3 (fun w' => w'.cell? ⟨wb, 0, none⟩ = some (.pointer (some ⟨c, 0, none⟩)) ∧ w'.cell? ⟨q + 1, 0, none⟩ = some (.int .i64 kb) ∧ w'.cell? ⟨q + 1, 1, none⟩ = some (.int .i64 gb) ∧ w'.cell? ⟨q + 1, 2, none⟩ = some (.slice ab fb.length cb))
        (first | exact hc0 | exact HKA.out _ _ (by assumption) | go_keep)
        (first
          | (go_at_call 21; refine (HF2.out _ _ (by assumption)).mono ?_; rintro e w6 ⟨x6, y6, rfl, hA6, hb6, _⟩)
          | (go_at_call 23; refine (HAB.out _ _ _ _ (by assumption)).mono ?_; rintro e w7 ⟨rfl, hA7, hb7⟩))
      have HA7 := Lib.hid hA7
      have HN7 := Lib.hid (show answerAt w7 a E 0 0 from ((Hans.out.below hbs).below hb6).below hb7)
      have hwb7 : w7.cell? ⟨wb, 0, none⟩ = some (.pointer (some ⟨c, 0, none⟩)) := (HKA.out _ _ hA7).1
      clear hA6 hA7 hA0 hc0 HA5 hb6 hb7 hbs Hans
      have HTk := Lib.hid ((take_some c a S E 0 0 none none 0 0 0 0 w7 HA7.out.at_ (by have := HS.out.1; omega) HS.out.2.2.2.2 HN7.out).mono (R' := fun e w' => e = .returned (.tuple #[.agg #[.int .i64 E, .int .i64 0, .int .i64 0, .slice none 0 0, .slice none 0 0], .bool true]) ∧ ∃ S', FreeS S' ∧ Ak w c wb (q + 1) (worldVals c bk 0 3) [.int .i64 kb, .int .i64 gb, .slice ab fb.length cb] S' w') (fun e w' ⟨he, hC, hT⟩ => ⟨he, { S with answer := .pointer none }, ⟨HS.out.1, HS.out.2.1, HS.out.2.2.1, HS.out.2.2.2.1, rfl⟩, HA7.out.touch hC hT⟩))
      go_upto_region 19 with fail
      go_wp2_with fail
      refine HTk.out.mono ?_
      rintro e w8 ⟨rfl, S', hF, hA8⟩
      have HF := Lib.hid hF
      have HA8 := Lib.hid hA8
      clear HA7 hwb7 hF hA8 HTk HN7 HAB HS
      have HA9 := Lib.hid (HA8.out.quiet ((Below.refl w8.heap.size w8).alloc (Nat.le_refl _) (.cells #[.int .i64 E, .int .i64 0, .int .i64 0, .slice none 0 0, .slice none 0 0] 34)))
      have hE3 : (E != E) = false := by simp
      go_upto_region 22 with fail
      generalize w8.alloc (.cells #[.int .i64 E, .int .i64 0, .int .i64 0, .slice none 0 0, .slice none 0 0] 34) = w9 at HA9 ⊢
      clear HA8
      have hA0 := HA9.out.quiet (Below.refl _ _).drew
      have hc0 := HKA.out _ _ hA0
      go_region_held3 (fun w' => w'.cell? ⟨wb, 0, none⟩ = some (.pointer (some ⟨c, 0, none⟩)) ∧ w'.cell? ⟨q + 1, 0, none⟩ = some (.int .i64 kb) ∧ w'.cell? ⟨q + 1, 1, none⟩ = some (.int .i64 gb) ∧ w'.cell? ⟨q + 1, 2, none⟩ = some (.slice ab fb.length cb))
        (first | exact hc0 | exact HKA.out _ _ (by assumption) | go_keep)
        (first
          | (go_at_call 21; refine (HF2.out _ _ (by assumption)).mono ?_; rintro e w6 ⟨x6, y6, rfl, hA6, _, hr6⟩)
          | (go_at_call 23; refine (HAF.out _ _ _ _ HF.out (by assumption) (by assumption)).mono ?_; rintro e w7 ⟨rfl, S7, hA7⟩))
      have HB7 := Lib.hid hA7.below
      clear hA6 hA7 hA0 hc0 HA9 hr6
      go_wp2_with fail
      refine (awake_any _).mono ?_
      rintro e w10 ⟨rfl, hb10⟩
      go_wp2_with fail
      go_ret
      exact ⟨rfl, below_step HB7.out hb10⟩
end Go.Proofs.YtmmnaieikfekfaaGreatDoor
