/- The five ticks of CoordServes' coordinator while it leads. Condition: all its vaults stand alike. -/
import Derived.Test.YtaemlplcjjbamaaGreatDoorBCTk
namespace Go.Proofs.YtaemlplcjjbamaaGreatDoor
open Go Go.RowKit
set_option linter.unusedVariables false
/-- what a leading coordinator with a call begins a tick with -/
structure Tick0 (w0 : World) (c kb mb n : Nat) (l : List Ent) (I : List (Int × List UInt8)) (ps : List Peer) (S : CSt) (Bk : List ByteArray) (X : CSt → World → Prop) (w : World) : Prop where
  ld : Ld w0 c kb mb n l I ps S Bk w
  x : X S w
  n1 : 1 ≤ n
  n9 : n ≤ 9
  l5 : l.length ≤ 5
  book : Bk.length ≤ 400000000
  c0 : w0.heap.size ≤ c
  m0 : w0.heap.size ≤ mb
  size : w0.heap.size ≤ w.heap.size
theorem Ld.setLeft {w0 : World} {c kb mb n : Nat} {l : List Ent} {I : List (Int × List UInt8)} {ps : List Peer} {S : CSt} {Bk : List ByteArray} {w w1 : World} (h : Ld w0 c kb mb n l I ps S Bk w) (x : Int) (hC : CoordAt w1 c { S with left := x }) (k : Keep [78] w w1) : Ld w0 c kb mb n l I ps { S with left := x } Bk w1 :=
  ⟨hC, h.id_, h.n_, h.bk_, h.bal, h.ph, h.fl, h.top, h.again, h.fetch, h.prs, h.len, k.1.2 _ _ _ _ _ _ (by decide) h.cho, k.1.2 _ _ _ _ _ _ (by decide) h.img, k.2 _ _ _ h.bok⟩
theorem Xt.tick {kd left rd : Int} {yes : Value} {fs : List TFile} {J : CSt → World → Prop} (hJ : JSide J) {S : CSt} {w w1 : World} (h : Xt kd left rd yes fs J S w) (k : Keep [78] w w1) : Xt kd (left - 1) rd yes fs J { S with left := S.left - 1 } w1 :=
  ⟨h.call.keep rfl k.1 (by decide) (by decide), by show S.left - 1 = left - 1; rw [h.left], h.read, h.yes, h.ans, hJ _ _ _ _ h.job rfl (k.1.mono (by decide))⟩
set_option maxHeartbeats 2000000 in
/-- next proposes the call's backup -/
theorem next_propose {w0 w : World} {c kb mb n : Nat} {l : List Ent} {I : List (Int × List UInt8)} {ps : List Peer} {S : CSt} {Bk : List ByteArray} {left rd : Int} {yes : Value} {fs : List TFile} {PP : List Peer → Prop} (t : Int) (h : Tick0 w0 c kb mb n l I ps S Bk (Xt 1 left rd yes fs JNone) w) (hI : ImgOk I l.length) (hpp : PP ps)
    (hall : ∀ i (hi : i < ps.length), i < n → ps[i].top = t) (ht0 : 0 ≤ t) (ht1 : t ≤ l.length) (h8 : fs.length ≤ 8) (hsz : ∀ f ∈ fs, f.path.size ≤ 9223372036854775807 ∧ f.data.size ≤ 2000) (hck : checkE fs = 0) :
    ∀ w1, CoordAt w1 c { S with left := S.left - 1 } → Touch (fun k => k = c) w w1 → Calls Tryz.prog 37 #[.pointer (some ⟨c, 0, none⟩)] w1 fun e w2 => e = .returned (.tuple #[]) ∧
      Tk w0 w c kb mb n l (I ++ [((l.length : Int), imgL fs)]) (Xt 1 (left - 1) rd yes fs (JobIs w0 n (l.length : Int) (markOf (seen Bk (ba (imgL fs))) (ba (imgL fs))) (ba (imgL fs)) (List.replicate 9 false))) (Bk.length + 1) PP w2 := by
  intro w1 hC1 hT1
  have hk1 := keep_coord h.ld.at_ hT1
  have hL1 := h.ld.setLeft (S.left - 1) hC1 hk1
  have hX1 := h.x.tick jside_none hk1
  obtain ⟨kc, kg, ad, cap, a1, a2, a3⟩ := hX1.call.ex
  obtain ⟨aa, cc, ha⟩ := h.ld.again
  have h1 := h.n1
  have h9 := h.n9
  have hl5 := h.l5
  have hbl := h.book
  have hln := h.ld.len
  have hc0 := h.c0
  have hm0 := h.m0
  have him := imgL_small h8 (fun f hf => (hsz f hf).2) hck
  have hw1 : w0.heap.size ≤ w1.heap.size := Nat.le_trans h.size hT1.size
  have hN := next_backup c w0.heap.size kb mb n kc cc cap aa ad { S with left := S.left - 1 } ps t kg fs I Bk w1 hC1 h.ld.prs h.ld.len h.ld.bk_ h.ld.n_ h1 h9 (fun v hv => hall v (by omega) hv) (by show (0 : Int) ≤ S.floor; rw [h.ld.fl]; exact Int.le_refl _) (by show S.floor ≤ S.top; rw [h.ld.fl, h.ld.top]; omega) (by show S.top ≤ 1000000; rw [h.ld.top]; omega) (by show S.top - S.floor < 32; rw [h.ld.fl, h.ld.top]; omega) ht0 (by show t ≤ S.top; rw [h.ld.top]; exact ht1) (by show S.top - t < 8; rw [h.ld.top]; omega)
    hL1.img hw1 (by rw [hI.1]; omega) (by show NewGen I S.top; rw [h.ld.top]; exact hI.new) hL1.bok (by omega) (by omega) hX1.job ha a1 a2 (tfsAt_own a3) h8 hsz hck
  refine hN.mono ?_
  rintro e w2 ⟨v', j, ta, tf, rfl, hC2, hR2, hJ2, hA2, hF2, hK2, z1, z2, hT2⟩
  have htop : ({ S with left := S.left - 1 } : CSt).top = (l.length : Int) := h.ld.top
  have hbal : ({ S with left := S.left - 1 } : CSt).ballot = 17 := h.ld.bal
  rw [htop] at hR2 hJ2
  rw [hbal] at hJ2
  have hkt : KeepT [78, 151] w1 w2 := KeepT.of_touch hT2 (fun q _ hq => by
    rcases hq with rfl | rfl | e
    · exact Or.inl (Tyd.blk hC1.1 (by simp))
    · exact Or.inr ⟨kb, Bk, hL1.bok⟩
    · exact Or.inl (Tyd.row hL1.img (by simp) e))
  have hab1 : Abv w0 w w1 := Abv.of_touch hT1 (fun q _ e => by omega)
  have hab2 : Abv w0 w1 w2 := Abv.of_touch hT2 (fun q _ hq => by
    rcases hq with rfl | rfl | e
    · exact hc0
    · exact hm0
    · exact (row_lt hL1.img e).1)
  have hsl : (seen Bk (ba (imgL fs))).length ≤ Bk.length + 1 := by
    unfold seen
    split
    · omega
    · rw [List.length_append]; simp
  exact ⟨rfl, ⟨⟨_, ps, _, ⟨hC2, h.ld.id_, h.ld.n_, h.ld.bk_, h.ld.bal, h.ld.ph, h.ld.fl, h.ld.top, h.ld.again, h.ld.fetch, h.ld.prs, hln, hkt.2 _ _ _ _ _ _ (by decide) hL1.cho, by rw [List.length_append]; exact hR2, hK2⟩, hsl,
    ⟨hX1.call.keep rfl hkt (by decide) (by decide), hX1.left, hX1.read, hX1.yes, hX1.ans, ⟨⟨j, ta, tf, rfl, hJ2, hA2, Nat.le_trans hw1 z1⟩⟩⟩, hpp⟩, (hk1.1.mono (by decide)).trans (hkt.mono (by decide)), hab1.trans hab2⟩⟩
/-- next has nothing to do: something is being proposed -/
theorem next_busy {w0 w : World} {c kb mb n : Nat} {l : List Ent} {I : List (Int × List UInt8)} {ps : List Peer} {S : CSt} {Bk : List ByteArray} {kd left rd g : Int} {yes : Value} {fs : List TFile} {mk img : ByteArray} {m : List Bool} {PP : List Peer → Prop} (h : Tick0 w0 c kb mb n l I ps S Bk (Xt kd left rd yes fs (JobIs w0 n g mk img m)) w) (hpp : PP ps) :
    ∀ w1, CoordAt w1 c { S with left := S.left - 1 } → Touch (fun k => k = c) w w1 → Calls Tryz.prog 37 #[.pointer (some ⟨c, 0, none⟩)] w1 fun e w2 => e = .returned (.tuple #[]) ∧ Tk w0 w c kb mb n l I (Xt kd (left - 1) rd yes fs (JobIs w0 n g mk img m)) Bk.length PP w2 := by
  intro w1 hC1 hT1
  have hk1 := keep_coord h.ld.at_ hT1
  have hL1 := h.ld.setLeft (S.left - 1) hC1 hk1
  have hX1 := h.x.tick (jside_is w0 n g mk img m) hk1
  have hc0 := h.c0
  obtain ⟨j, ta, tf, a1, a2, a3, a4⟩ := hX1.job.ex
  refine (next_job c j _ w1 hC1 a1).mono ?_
  rintro e w2 ⟨rfl, rfl⟩
  exact ⟨rfl, ⟨⟨_, ps, Bk, hL1, Nat.le_refl _, hX1, hpp⟩, hk1.1.mono (by decide), Abv.of_touch hT1 (fun q _ e => by omega)⟩⟩
/-- next has nothing to do: the call is no backup -/
theorem next_idle {w0 w : World} {c kb mb n : Nat} {l : List Ent} {I : List (Int × List UInt8)} {ps : List Peer} {S : CSt} {Bk : List ByteArray} {kd left rd : Int} {yes : Value} {fs : List TFile} {PP : List Peer → Prop} (h : Tick0 w0 c kb mb n l I ps S Bk (Xt kd left rd yes fs JNone) w) (hkd : (kd == 1) = false) (hpp : PP ps) :
    ∀ w1, CoordAt w1 c { S with left := S.left - 1 } → Touch (fun k => k = c) w w1 → Calls Tryz.prog 37 #[.pointer (some ⟨c, 0, none⟩)] w1 fun e w2 => e = .returned (.tuple #[]) ∧ Tk w0 w c kb mb n l I (Xt kd (left - 1) rd yes fs JNone) Bk.length PP w2 := by
  intro w1 hC1 hT1
  have hk1 := keep_coord h.ld.at_ hT1
  have hL1 := h.ld.setLeft (S.left - 1) hC1 hk1
  have hX1 := h.x.tick jside_none hk1
  have hc0 := h.c0
  obtain ⟨kc, kg, ad, cap, a1, a2, a3⟩ := hX1.call.ex
  obtain ⟨aa, cc, ha⟩ := h.ld.again
  refine (next_other c kc 0 cc aa _ kd _ w1 hC1 hX1.job ha a1 a2 hkd).mono ?_
  rintro e w2 ⟨rfl, rfl⟩
  exact ⟨rfl, ⟨⟨_, ps, Bk, hL1, Nat.le_refl _, hX1, hpp⟩, hk1.1.mono (by decide), Abv.of_touch hT1 (fun q _ e => by omega)⟩⟩
/-- asks asks nothing while a backup waits -/
theorem tk_asks_backup {w0 w w1 : World} {c kb mb n : Nat} {l : List Ent} {I : List (Int × List UInt8)} {left rd : Int} {yes : Value} {fs : List TFile} {J : CSt → World → Prop} {bkl : Nat} {PP : List Peer → Prop} {LF : List MG → Prop} {L : List MG} (h : Tk w0 w c kb mb n l I (Xt 1 left rd yes fs J) bkl PP w1) (hL : LF L) :
    Calls Tryz.prog 39 #[.pointer (some ⟨c, 0, none⟩)] w1 fun e w2 => ∃ sv l', e = .returned sv ∧ w2.ownsRow w1.heap.size 30 14 sv l'.length (msgsV l') ∧ Tk w0 w c kb mb n l I (Xt 1 left rd yes fs J) bkl PP w2 ∧ LF (L ++ l') ∧ KeepRows w1 w2 := by
  obtain ⟨S, ps, Bk, h1, h2, h3, h4⟩ := h.ex
  obtain ⟨kc, kg, ad, cap, a1, a2, a3⟩ := h3.call.ex
  refine (asks_backup c kc S _ w1 h1.at_ a1 a2).mono ?_
  rintro e w2 ⟨rfl, rfl⟩
  exact ⟨_, [], rfl, World.ownsRow_nil _ _ _ _, h, by rw [List.append_nil]; exact hL, fun _ _ _ _ hr => hr⟩
/-- behind the first question: a tally of who said yes -/
def XAsked (w0 : World) (n : Nat) (left rd : Int) (fs : List TFile) (M : List Bool) (S : CSt) (w : World) : Prop := ∃ t : Nat, Xt 4 left rd (.pointer (some ⟨t, 0, none⟩)) fs JNone S w ∧ TallyAt w t n M ∧ w0.heap.size ≤ t
theorem side_asked {w0 : World} {n : Nat} {left rd : Int} {fs : List TFile} {M : List Bool} : Side (XAsked w0 n left rd fs M) := by
  rintro S S' w w' ⟨t, h1, h2, h3⟩ e1 e2 e3 e4 e5 e6 k
  exact ⟨t, side_xt jside_none _ _ _ _ h1 e1 e2 e3 e4 e5 e6 k, h2.keep k (by decide), h3⟩
/-- the call was answered with what is known -/
def XTold (k : Nat) (S : CSt) (w : World) : Prop := S.call = .pointer none ∧ S.job = .pointer none ∧ S.yes = .pointer none ∧ ∃ (a : Nat) (ma : Option Addr) (mc : Nat), S.answer = .pointer (some ⟨a, 0, none⟩) ∧ Blk w a (ansVals 0 (k : Int) 0 (.slice none 0 0) (.slice ma k mc)) 51
theorem side_told {k : Nat} : Side (XTold k) := by
  rintro S S' w w' ⟨h1, h2, h3, a, ma, mc, h4, h5⟩ e1 e2 e3 e4 e5 e6 kp
  exact ⟨e1.trans h1, e2.trans h2, e5.trans h3, a, ma, mc, e6.trans h4, kp.1 _ _ _ (by decide) h5⟩
theorem tk_asks_first {w0 w w1 : World} {c kb mb n : Nat} {l : List Ent} {I : List (Int × List UInt8)} {left rd : Int} {fs : List TFile} {bkl : Nat} {PP : List Peer → Prop} {L : List MG} (h : Tk w0 w c kb mb n l I (Xt 4 left rd (.pointer none) fs JNone) bkl PP w1) (hn1 : 1 ≤ n) (hn9 : n ≤ 9) (hrd : 0 ≤ rd ∧ rd ≤ 1000000) (hc0 : w0.heap.size ≤ c) (hw1 : w0.heap.size ≤ w1.heap.size)
    (hP : ∀ ps, PP ps → ∀ i (hi : i < ps.length), i < n → ps[i].told = true ∧ ps[i].floor = 0) :
    Calls Tryz.prog 39 #[.pointer (some ⟨c, 0, none⟩)] w1 fun e w2 => ∃ sv l', e = .returned sv ∧ w2.ownsRow w1.heap.size 30 14 sv l'.length (msgsV l') ∧ Tk w0 w c kb mb n l I (XAsked w0 n left (rd + 1) fs (List.replicate 9 false)) bkl PP w2 ∧ L ++ l' = L ++ asksL 1 17 (rd + 1) n ∧ KeepRows w1 w2 := by
  obtain ⟨S, ps, Bk, h1, h2, h3, h4⟩ := h.ex
  obtain ⟨kc, kg, ad, cap, a1, a2, a3⟩ := h3.call.ex
  obtain ⟨aa, cc, ha⟩ := h1.again
  have hln := h1.len
  have hA := asks_first c kc n cc aa S ps _ w1 h1.at_ h1.prs h1.len h1.n_ hn1 hn9 (fun v hv => by
    obtain ⟨p1, p2⟩ := hP ps h4 v (by omega) hv
    exact ⟨p1, by rw [h1.fl, p2]; exact Int.le_refl _⟩) a1 a2 ha h3.job h3.yes (by rw [h3.read]; exact hrd)
  refine hA.mono ?_
  rintro e w2 ⟨x, t, rfl, hr, hC, hta, ht0, hT⟩
  rw [h1.id_, h1.bal, h3.read] at hr
  rw [h3.read] at hC
  have hk := keep_coord h1.at_ hT
  exact ⟨x, asksL 1 17 (rd + 1) n, rfl, by rw [asksL_length]; exact hr, ⟨⟨_, ps, Bk, ⟨hC, h1.id_, h1.n_, h1.bk_, h1.bal, h1.ph, h1.fl, h1.top, h1.again, h1.fetch, h1.prs, h1.len, hk.1.2 _ _ _ _ _ _ (by decide) h1.cho, hk.1.2 _ _ _ _ _ _ (by decide) h1.img, hk.2 _ _ _ h1.bok⟩, h2,
    ⟨t, ⟨h3.call.keep rfl hk.1 (by decide) (by decide), h3.left, rfl, rfl, h3.ans, h3.job⟩, hta, Nat.le_trans hw1 ht0⟩, h4⟩, h.keep.trans (hk.1.mono (by decide)), h.abv.trans (Abv.of_touch hT (fun q _ e => by omega))⟩, rfl, fun B ov k xs hr => hk.1.2 _ _ _ _ _ _ (by decide) hr⟩
theorem tk_asks_second {w0 w w1 : World} {c kb mb n : Nat} {l : List Ent} {I : List (Int × List UInt8)} {left rd : Int} {fs : List TFile} {M : List Bool} {bkl : Nat} {PP : List Peer → Prop} {L : List MG} (h : Tk w0 w c kb mb n l I (XAsked w0 n left rd fs M) bkl PP w1) (hM : wonT M n = true) (hn1 : 1 ≤ n) (hn9 : n ≤ 9) (hl5 : l.length ≤ 5) (hc0 : w0.heap.size ≤ c)
    (hP : ∀ ps, PP ps → ∀ i (hi : i < ps.length), i < n → ps[i].told = true ∧ ps[i].floor = 0) :
    Calls Tryz.prog 39 #[.pointer (some ⟨c, 0, none⟩)] w1 fun e w2 => ∃ sv l', e = .returned sv ∧ w2.ownsRow w1.heap.size 30 14 sv l'.length (msgsV l') ∧ Tk w0 w c kb mb n l I (XTold l.length) bkl PP w2 ∧ L ++ l' = L ∧ KeepRows w1 w2 := by
  obtain ⟨S, ps, Bk, h1, h2, ⟨t, h3, hta, ht0⟩, h4⟩ := h.ex
  obtain ⟨kc, kg, ad, cap, a1, a2, a3⟩ := h3.call.ex
  obtain ⟨aa, cc, ha⟩ := h1.again
  have hln := h1.len
  have hA := asks_second c w0.heap.size kc n cc t aa S ps l M _ w1 h1.at_ h1.prs h1.len h1.n_ hn1 hn9 (fun v hv => by
    obtain ⟨p1, p2⟩ := hP ps h4 v (by omega) hv
    exact ⟨p1, by rw [h1.fl, p2]; exact Int.le_refl _⟩) a1 a2 ha h3.job h3.yes hta hM h1.cho (by omega) (by rw [h1.top]; omega)
  refine hA.mono ?_
  rintro e w2 ⟨a, ma, mc, rfl, hC, hB, hz, hT⟩
  rw [h1.top, h1.fl] at hB
  have hk := keep_coord h1.at_ hT
  exact ⟨_, [], rfl, World.ownsRow_nil _ _ _ _, ⟨⟨_, ps, Bk, ⟨hC, h1.id_, h1.n_, h1.bk_, h1.bal, h1.ph, h1.fl, h1.top, h1.again, h1.fetch, h1.prs, h1.len, hk.1.2 _ _ _ _ _ _ (by decide) h1.cho, hk.1.2 _ _ _ _ _ _ (by decide) h1.img, hk.2 _ _ _ h1.bok⟩, h2,
    ⟨rfl, h3.job, rfl, a, ma, mc, rfl, hB⟩, h4⟩, h.keep.trans (hk.1.mono (by decide)), h.abv.trans (Abv.of_touch hT (fun q _ e => by omega))⟩, by rw [List.append_nil], fun B ov k xs hr => hk.1.2 _ _ _ _ _ _ (by decide) hr⟩
theorem zeros_getD (v : Nat) : (List.replicate 9 false).getD v false = false := by
  rw [List.getD_eq_getElem?_getD, List.getElem?_replicate]
  split <;> rfl
/-- a tick behind a call for a backup: it is proposed, the last generation is told as chosen -/
theorem tick_chosen {w0 w : World} {c kb mb n g : Nat} {l : List Ent} {I : List (Int × List UInt8)} {ps : List Peer} {S : CSt} {Bk : List ByteArray} {left rd : Int} {fs : List TFile} {mk : ByteArray} (h : Tick0 w0 c kb mb n l I ps S Bk (Xt 1 left rd (.pointer none) fs JNone) w) (hlf : 2 ≤ left ∧ left ≤ 1000) (hI : ImgOk I l.length) (hl : l.length = g + 1) (hm : mkF l (g : Int) = some mk)
    (hP : ∀ i (hi : i < ps.length), i < n → PGot (g : Int) mk ps[i]) (h8 : fs.length ≤ 8) (hsz : ∀ f ∈ fs, f.path.size ≤ 9223372036854775807 ∧ f.data.size ≤ 2000) (hck : checkE fs = 0) :
    Calls Tryz.prog 17 #[.pointer (some ⟨c, 0, none⟩)] w (TickSays (fun L w' => Tk w0 w c kb mb n l (I ++ [((l.length : Int), imgL fs)]) (Xt 1 (left - 1) rd (.pointer none) fs (JobIs w0 n (l.length : Int) (markOf (seen Bk (ba (imgL fs))) (ba (imgL fs))) (ba (imgL fs)) (List.replicate 9 false))) (Bk.length + 1) (fun ps => ∀ i (hi : i < ps.length), i < n → PGot (g : Int) mk ps[i]) w' ∧ L = chosensL (g : Int) mk n) w) := by
  obtain ⟨kc, kg, ad, cap, a1, a2, a3⟩ := h.x.call.ex
  have hl5 := h.l5
  have hn9 := h.n9
  have sX := side_xt (kd := 1) (left := left - 1) (rd := rd) (yes := .pointer none) (fs := fs) (jside_is w0 n (l.length : Int) (markOf (seen Bk (ba (imgL fs))) (ba (imgL fs))) (ba (imgL fs)) (List.replicate 9 false))
  refine tk_any w0 w c kb mb n kc S l _ _ _ (fun _ => Bk.length + 1) (fun _ ps => ∀ i (hi : i < ps.length), i < n → PGot (g : Int) mk ps[i]) (fun v L => L = chosensL (g : Int) mk v) (fun L => L = chosensL (g : Int) mk n) ⟨sX, sX, ?_, ?_, ?_, rfl, ?_, ?_⟩ h.ld.at_ h.ld.n_ h.n1 h.n9 h.ld.ph a1 (by rw [h.x.left]; exact hlf) h.size
  · exact next_propose (g : Int) h hI hP (fun i hi hin => (hP i hi hin).2.2.1) (by omega) (by omega) h8 hsz hck
  · intro v L w1 hv hL hT
    refine (tk_chosen sX hT hv hn9 hl (by omega) hm (fun ps hp => hp)).mono ?_
    rintro e w2 ⟨sv, rfl, hr, hT2, hk⟩
    exact ⟨sv, _, rfl, hr, hT2, by rw [hL, chosensL_succ], hk⟩
  · intro L w1 hL hT
    exact tk_asks_backup (LF := fun L => L = chosensL (g : Int) mk n) hT hL
  · intro v L hL hv
    rw [hL, chosensL_length]; omega
  · intro L hL
    rw [hL, chosensL_length]; omega
/-- a tick while what is proposed is sent -/
theorem tick_parts {w0 w : World} {c kb mb n g : Nat} {l : List Ent} {I : List (Int × List UInt8)} {T : List UInt8} {ps : List Peer} {S : CSt} {Bk : List ByteArray} {left rd : Int} {fs : List TFile} {mk img : ByteArray} (h : Tick0 w0 c kb mb n l (I ++ [((g : Int), T)]) ps S Bk (Xt 1 left rd (.pointer none) fs (JobIs w0 n (g : Int) mk img (List.replicate 9 false))) w) (hlf : 2 ≤ left ∧ left ≤ 1000) (hI : ImgOk I g) (hl : l.length = g) (hT : T.length ≤ 30000) (hmk : mk.size = 32)
    (hP : ∀ i (hi : i < ps.length), i < n → PFar (g : Int) ps[i]) :
    Calls Tryz.prog 17 #[.pointer (some ⟨c, 0, none⟩)] w (TickSays (fun L w' => Tk w0 w c kb mb n l (I ++ [((g : Int), T)]) (Xt 1 (left - 1) rd (.pointer none) fs (JobIs w0 n (g : Int) mk img (List.replicate 9 false))) (Bk.length + 120020 * n) (Mix n (fun i => i < n) (PPart (g : Int)) (PFar (g : Int))) w' ∧ PartsOk (g : Int) mk n L) w) := by
  obtain ⟨kc, kg, ad, cap, a1, a2, a3⟩ := h.x.call.ex
  have hl5 := h.l5
  have hn9 := h.n9
  have hbk := h.book
  have sX := side_xt (kd := 1) (left := left - 1) (rd := rd) (yes := .pointer none) (fs := fs) (jside_is w0 n (g : Int) mk img (List.replicate 9 false))
  refine tk_any w0 w c kb mb n kc S l _ _ _ (fun v => Bk.length + 120020 * v) (fun v => Mix n (fun i => i < v) (PPart (g : Int)) (PFar (g : Int))) (fun v L => PartsOk (g : Int) mk v L) (fun L => PartsOk (g : Int) mk n L) ⟨sX, sX, ?_, ?_, ?_, PartsOk.nil _ _, ?_, ?_⟩ h.ld.at_ h.ld.n_ h.n1 h.n9 h.ld.ph a1 (by rw [h.x.left]; exact hlf) h.size
  · exact next_busy h (Mix.all hP)
  · intro v L w1 hv hL hT1
    refine (tk_parts sX hT1 hv hn9 hl hI (by omega) hT (by omega) hmk (fun S w' hx => hx.job) (zeros_getD v) hL h.c0 h.m0).mono ?_
    rintro e w2 ⟨sv, l', rfl, hr, hT2, hL2, hk⟩
    exact ⟨sv, l', rfl, hr, by rw [show Bk.length + 120020 * (v + 1) = Bk.length + 120020 * v + 120020 by omega]; exact hT2, hL2, hk⟩
  · intro L w1 hL hT1
    exact tk_asks_backup (LF := fun L => PartsOk (g : Int) mk n L) hT1 hL
  · intro v L hL hv
    have := hL.len
    omega
  · intro L hL
    have := hL.len
    omega
/-- the first tick of a new leader with a backup: it is proposed and sent at once -/
theorem tick_first {w0 w : World} {c kb mb n : Nat} {l : List Ent} {I : List (Int × List UInt8)} {ps : List Peer} {S : CSt} {Bk : List ByteArray} {left rd : Int} {fs : List TFile} (h : Tick0 w0 c kb mb n l I ps S Bk (Xt 1 left rd (.pointer none) fs JNone) w) (hlf : 2 ≤ left ∧ left ≤ 1000) (hI : ImgOk I l.length)
    (hP : ∀ i (hi : i < ps.length), i < n → PFar (l.length : Int) ps[i]) (h8 : fs.length ≤ 8) (hsz : ∀ f ∈ fs, f.path.size ≤ 9223372036854775807 ∧ f.data.size ≤ 2000) (hck : checkE fs = 0) (hmk : (markOf (seen Bk (ba (imgL fs))) (ba (imgL fs))).size = 32) :
    Calls Tryz.prog 17 #[.pointer (some ⟨c, 0, none⟩)] w (TickSays (fun L w' => Tk w0 w c kb mb n l (I ++ [((l.length : Int), imgL fs)]) (Xt 1 (left - 1) rd (.pointer none) fs (JobIs w0 n (l.length : Int) (markOf (seen Bk (ba (imgL fs))) (ba (imgL fs))) (ba (imgL fs)) (List.replicate 9 false))) (Bk.length + 1 + 120020 * n) (Mix n (fun i => i < n) (PPart (l.length : Int)) (PFar (l.length : Int))) w' ∧ PartsOk (l.length : Int) (markOf (seen Bk (ba (imgL fs))) (ba (imgL fs))) n L) w) := by
  obtain ⟨kc, kg, ad, cap, a1, a2, a3⟩ := h.x.call.ex
  have hl5 := h.l5
  have hn9 := h.n9
  have hbk := h.book
  generalize hmm : markOf (seen Bk (ba (imgL fs))) (ba (imgL fs)) = mk at hmk ⊢
  have sX := side_xt (kd := 1) (left := left - 1) (rd := rd) (yes := .pointer none) (fs := fs) (jside_is w0 n (l.length : Int) mk (ba (imgL fs)) (List.replicate 9 false))
  refine tk_any w0 w c kb mb n kc S l _ _ _ (fun v => Bk.length + 1 + 120020 * v) (fun v => Mix n (fun i => i < v) (PPart (l.length : Int)) (PFar (l.length : Int))) (fun v L => PartsOk (l.length : Int) mk v L) (fun L => PartsOk (l.length : Int) mk n L) ⟨sX, sX, ?_, ?_, ?_, PartsOk.nil _ _, ?_, ?_⟩ h.ld.at_ h.ld.n_ h.n1 h.n9 h.ld.ph a1 (by rw [h.x.left]; exact hlf) h.size
  · have := next_propose (PP := Mix n (fun i => i < 0) (PPart (l.length : Int)) (PFar (l.length : Int))) (l.length : Int) h hI (Mix.all hP) (fun i hi hin => (hP i hi hin).2.2.1) (by omega) (Int.le_refl _) h8 hsz hck
    rw [hmm] at this
    exact this
  · intro v L w1 hv hL hT1
    refine (tk_parts sX hT1 hv hn9 rfl hI (by omega) (imgL_small h8 (fun f hf => (hsz f hf).2) hck) (by omega) hmk (fun S w' hx => hx.job) (zeros_getD v) hL h.c0 h.m0).mono ?_
    rintro e w2 ⟨sv, l', rfl, hr, hT2, hL2, hk⟩
    exact ⟨sv, l', rfl, hr, by rw [show Bk.length + 1 + 120020 * (v + 1) = Bk.length + 1 + 120020 * v + 120020 by omega]; exact hT2, hL2, hk⟩
  · intro L w1 hL hT1
    exact tk_asks_backup (LF := fun L => PartsOk (l.length : Int) mk n L) hT1 hL
  · intro v L hL hv
    have := hL.len
    omega
  · intro L hL
    have := hL.len
    omega
/-- a tick while all vaults have what is proposed -/
theorem tick_accept {w0 w : World} {c kb mb n g : Nat} {l : List Ent} {I : List (Int × List UInt8)} {ps : List Peer} {S : CSt} {Bk : List ByteArray} {left rd : Int} {fs : List TFile} {mk img : ByteArray} (h : Tick0 w0 c kb mb n l I ps S Bk (Xt 1 left rd (.pointer none) fs (JobIs w0 n (g : Int) mk img (List.replicate 9 false))) w) (hlf : 2 ≤ left ∧ left ≤ 1000) (hl : l.length = g)
    (hP : ∀ i (hi : i < ps.length), i < n → PGot (g : Int) mk ps[i]) :
    Calls Tryz.prog 17 #[.pointer (some ⟨c, 0, none⟩)] w (TickSays (fun L w' => Tk w0 w c kb mb n l I (Xt 1 (left - 1) rd (.pointer none) fs (JobIs w0 n (g : Int) mk img (List.replicate 9 false))) Bk.length (fun ps => ∀ i (hi : i < ps.length), i < n → PGot (g : Int) mk ps[i]) w' ∧ L = acceptsL (g : Int) mk n) w) := by
  obtain ⟨kc, kg, ad, cap, a1, a2, a3⟩ := h.x.call.ex
  have hn9 := h.n9
  have sX := side_xt (kd := 1) (left := left - 1) (rd := rd) (yes := .pointer none) (fs := fs) (jside_is w0 n (g : Int) mk img (List.replicate 9 false))
  refine tk_any w0 w c kb mb n kc S l _ _ _ (fun _ => Bk.length) (fun _ ps => ∀ i (hi : i < ps.length), i < n → PGot (g : Int) mk ps[i]) (fun v L => L = acceptsL (g : Int) mk v) (fun L => L = acceptsL (g : Int) mk n) ⟨sX, sX, ?_, ?_, ?_, rfl, ?_, ?_⟩ h.ld.at_ h.ld.n_ h.n1 h.n9 h.ld.ph a1 (by rw [h.x.left]; exact hlf) h.size
  · exact next_busy h hP
  · intro v L w1 hv hL hT
    refine (tk_accept sX hT hv hn9 hl (fun ps hp => hp) (fun S w' hx => hx.job) (zeros_getD v)).mono ?_
    rintro e w2 ⟨sv, rfl, hr, hT2, hk⟩
    exact ⟨sv, _, rfl, hr, hT2, by rw [hL, acceptsL_succ], hk⟩
  · intro L w1 hL hT
    exact tk_asks_backup (LF := fun L => L = acceptsL (g : Int) mk n) hT hL
  · intro v L hL hv
    rw [hL, acceptsL_length]; omega
  · intro L hL
    rw [hL, acceptsL_length]; omega
/-- a tick behind a call for the list: the last generation is told as chosen, all are asked -/
theorem tick_ask {w0 w : World} {c kb mb n g : Nat} {l : List Ent} {I : List (Int × List UInt8)} {ps : List Peer} {S : CSt} {Bk : List ByteArray} {left rd : Int} {fs : List TFile} {mk : ByteArray} (h : Tick0 w0 c kb mb n l I ps S Bk (Xt 4 left rd (.pointer none) fs JNone) w) (hlf : 2 ≤ left ∧ left ≤ 1000) (hrd : 0 ≤ rd ∧ rd ≤ 1000000) (hl : l.length = g + 1) (hm : mkF l (g : Int) = some mk)
    (hP : ∀ i (hi : i < ps.length), i < n → PGot (g : Int) mk ps[i]) :
    Calls Tryz.prog 17 #[.pointer (some ⟨c, 0, none⟩)] w (TickSays (fun L w' => Tk w0 w c kb mb n l I (XAsked w0 n (left - 1) (rd + 1) fs (List.replicate 9 false)) Bk.length (fun ps => ∀ i (hi : i < ps.length), i < n → PGot (g : Int) mk ps[i]) w' ∧ L = chosensL (g : Int) mk n ++ asksL 1 17 (rd + 1) n) w) := by
  obtain ⟨kc, kg, ad, cap, a1, a2, a3⟩ := h.x.call.ex
  have hn9 := h.n9
  have hl5 := h.l5
  have sX := side_xt (kd := 4) (left := left - 1) (rd := rd) (yes := .pointer none) (fs := fs) jside_none
  refine tk_any w0 w c kb mb n kc S l _ _ _ (fun _ => Bk.length) (fun _ ps => ∀ i (hi : i < ps.length), i < n → PGot (g : Int) mk ps[i]) (fun v L => L = chosensL (g : Int) mk v) (fun L => L = chosensL (g : Int) mk n ++ asksL 1 17 (rd + 1) n) ⟨sX, side_asked, ?_, ?_, ?_, rfl, ?_, ?_⟩ h.ld.at_ h.ld.n_ h.n1 h.n9 h.ld.ph a1 (by rw [h.x.left]; exact hlf) h.size
  · exact next_idle h (by decide) hP
  · intro v L w1 hv hL hT
    refine (tk_chosen sX hT hv hn9 hl (by omega) hm (fun ps hp => hp)).mono ?_
    rintro e w2 ⟨sv, rfl, hr, hT2, hk⟩
    exact ⟨sv, _, rfl, hr, hT2, by rw [hL, chosensL_succ], hk⟩
  · intro L w1 hL hT
    refine (tk_asks_first (L := L) hT h.n1 h.n9 hrd h.c0 (Nat.le_trans h.size hT.abv.size) (fun ps hp i hi hin => ⟨(hp i hi hin).1, (hp i hi hin).2.1⟩)).mono ?_
    rintro e w2 ⟨sv, l', rfl, hr, hT2, hl', hk⟩
    exact ⟨sv, l', rfl, hr, hT2, by rw [hl', hL], hk⟩
  · intro v L hL hv
    rw [hL, chosensL_length]; omega
  · intro L hL
    rw [hL, List.length_append, chosensL_length, asksL_length]; omega
/-- the same at a new leader that knows nothing -/
theorem tick_ask0 {w0 w : World} {c kb mb n : Nat} {l : List Ent} {I : List (Int × List UInt8)} {ps : List Peer} {S : CSt} {Bk : List ByteArray} {left rd : Int} {fs : List TFile} (h : Tick0 w0 c kb mb n l I ps S Bk (Xt 4 left rd (.pointer none) fs JNone) w) (hlf : 2 ≤ left ∧ left ≤ 1000) (hrd : 0 ≤ rd ∧ rd ≤ 1000000)
    (hP : ∀ i (hi : i < ps.length), i < n → PFar (l.length : Int) ps[i]) :
    Calls Tryz.prog 17 #[.pointer (some ⟨c, 0, none⟩)] w (TickSays (fun L w' => Tk w0 w c kb mb n l I (XAsked w0 n (left - 1) (rd + 1) fs (List.replicate 9 false)) Bk.length (fun ps => ∀ i (hi : i < ps.length), i < n → PFar (l.length : Int) ps[i]) w' ∧ L = asksL 1 17 (rd + 1) n) w) := by
  obtain ⟨kc, kg, ad, cap, a1, a2, a3⟩ := h.x.call.ex
  have hn9 := h.n9
  have hl5 := h.l5
  have sX := side_xt (kd := 4) (left := left - 1) (rd := rd) (yes := .pointer none) (fs := fs) jside_none
  refine tk_any w0 w c kb mb n kc S l _ _ _ (fun _ => Bk.length) (fun _ ps => ∀ i (hi : i < ps.length), i < n → PFar (l.length : Int) ps[i]) (fun v L => L = []) (fun L => L = asksL 1 17 (rd + 1) n) ⟨sX, side_asked, ?_, ?_, ?_, rfl, ?_, ?_⟩ h.ld.at_ h.ld.n_ h.n1 h.n9 h.ld.ph a1 (by rw [h.x.left]; exact hlf) h.size
  · exact next_idle h (by decide) hP
  · intro v L w1 hv hL hT
    refine (tk_none sX hT hv hn9 (fun ps hp i hi hin => ⟨(hp i hi hin).1, (hp i hi hin).2.1, (hp i hi hin).2.2.1⟩) (fun S w' hx => hx.job)).mono ?_
    rintro e w2 ⟨sv, rfl, hr, hT2, hk⟩
    exact ⟨sv, _, rfl, hr, hT2, by rw [hL]; rfl, hk⟩
  · intro L w1 hL hT
    refine (tk_asks_first (L := L) hT h.n1 h.n9 hrd h.c0 (Nat.le_trans h.size hT.abv.size) (fun ps hp i hi hin => ⟨(hp i hi hin).1, (hp i hi hin).2.1⟩)).mono ?_
    rintro e w2 ⟨sv, l', rfl, hr, hT2, hl', hk⟩
    exact ⟨sv, l', rfl, hr, hT2, by rw [hl', hL]; rfl, hk⟩
  · intro v L hL hv
    rw [hL]; simp
  · intro L hL
    rw [hL, asksL_length]; omega
/-- the tick behind a majority's yes: the call is answered -/
theorem tick_told {w0 w : World} {c kb mb n : Nat} {l : List Ent} {I : List (Int × List UInt8)} {ps : List Peer} {S : CSt} {Bk : List ByteArray} {left rd : Int} {fs : List TFile} {M : List Bool} (h : Tick0 w0 c kb mb n l I ps S Bk (XAsked w0 n left rd fs M) w) (hM : wonT M n = true) (hlf : 2 ≤ left ∧ left ≤ 1000)
    (hP : ∀ i (hi : i < ps.length), i < n → PFar (l.length : Int) ps[i]) :
    Calls Tryz.prog 17 #[.pointer (some ⟨c, 0, none⟩)] w (TickSays (fun L w' => Tk w0 w c kb mb n l I (XTold l.length) Bk.length (fun ps => ∀ i (hi : i < ps.length), i < n → PFar (l.length : Int) ps[i]) w' ∧ L = []) w) := by
  obtain ⟨t, hx, hta, ht0⟩ := h.x
  obtain ⟨kc, kg, ad, cap, a1, a2, a3⟩ := hx.call.ex
  have hn9 := h.n9
  have hl5 := h.l5
  have h' : Tick0 w0 c kb mb n l I ps S Bk (Xt 4 left rd (.pointer (some ⟨t, 0, none⟩)) fs JNone) w := ⟨h.ld, hx, h.n1, h.n9, h.l5, h.book, h.c0, h.m0, h.size⟩
  refine tk_any w0 w c kb mb n kc S l _ (XAsked w0 n (left - 1) rd fs M) _ (fun _ => Bk.length) (fun _ ps => ∀ i (hi : i < ps.length), i < n → PFar (l.length : Int) ps[i]) (fun v L => L = []) (fun L => L = []) ⟨side_asked, side_told, ?_, ?_, ?_, rfl, ?_, ?_⟩ h.ld.at_ h.ld.n_ h.n1 h.n9 h.ld.ph a1 (by rw [hx.left]; exact hlf) h.size
  · intro w1 hC1 hT1
    have htc : ¬ t = c := fun e => (hta.1.ne h.ld.at_.1 (by decide)) e
    refine (next_idle (PP := fun ps => ∀ i (hi : i < ps.length), i < n → PFar (l.length : Int) ps[i]) h' (by decide) hP w1 hC1 hT1).mono ?_
    rintro e w2 ⟨rfl, hT2⟩
    obtain ⟨S2, ps2, Bk2, b1, b2, b3, b4⟩ := hT2.ex
    exact ⟨rfl, ⟨⟨S2, ps2, Bk2, b1, b2, ⟨t, b3, hta.keep hT2.keep (by decide), ht0⟩, b4⟩, hT2.keep, hT2.abv⟩⟩
  · intro v L w1 hv hL hT
    refine (tk_none side_asked hT hv hn9 (fun ps hp i hi hin => ⟨(hp i hi hin).1, (hp i hi hin).2.1, (hp i hi hin).2.2.1⟩) (fun S w' hx => by obtain ⟨_, hx, _⟩ := hx; exact hx.job)).mono ?_
    rintro e w2 ⟨sv, rfl, hr, hT2, hk⟩
    exact ⟨sv, _, rfl, hr, hT2, by rw [hL]; rfl, hk⟩
  · intro L w1 hL hT
    refine (tk_asks_second (L := L) hT hM h.n1 h.n9 hl5 h.c0 (fun ps hp i hi hin => ⟨(hp i hi hin).1, (hp i hi hin).2.1⟩)).mono ?_
    rintro e w2 ⟨sv, l', rfl, hr, hT2, hl', hk⟩
    exact ⟨sv, l', rfl, hr, hT2, by rw [hl', hL], hk⟩
  · intro v L hL hv
    rw [hL]; simp
  · intro L hL
    rw [hL]; simp
end Go.Proofs.YtaemlplcjjbamaaGreatDoor
