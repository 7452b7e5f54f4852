/- CoordServes' backups and list as rounds: from a call that was asked to its answer. Condition: all vaults stand alike. CoordServes' backups and list as rounds, all of them: of a coordinator that leads, and of one that still prepares. Condition: all vaults stand alike. The walk of a coordinator's Ask. No condition. -/
import Derived.Test.YtaemlplcjjbamaaGreatDoorBCRounds
import Derived.Test.YtaemlplcjjbamaaGreatDoorBAsk
import Derived.Test.YtaemlplcjjbamaaGreatDoorBClone
import Derived.Deep.RegionLaw
import Derived.StillTailTactics
namespace Go.Proofs.YtaemlplcjjbamaaGreatDoor
open Go Go.RowKit
set_option linter.unusedVariables false
def XIdle (S : CSt) (w : World) : Prop := S.call = .pointer none ∧ S.job = .pointer none ∧ S.yes = .pointer none ∧ S.read = 0 ∧ S.answer = .pointer none
abbrev zerosM : List Bool := List.replicate 9 false
def AllP (n : Nat) (P : Peer → Prop) (ps : List Peer) : Prop := ∀ i (hi : i < ps.length), i < n → P ps[i]
theorem md_take_none {w0 w : World} {c wb kb mb n K : Nat} {sv : Value} {L : List MG} {l : List Ent} {I : List (Int × List UInt8)} {X : CSt → World → Prop} {bkl : Nat} {PP : List Peer → Prop} (hX : Side X) (hn1 : 1 ≤ n) (ha : ∀ S w, X S w → S.answer = .pointer none) (h : Md w0 c wb kb mb n K sv L l I X bkl PP w) :
    Calls Tryz.prog 13 #[.pointer (some ⟨c, 0, none⟩)] w fun e w' => e = .returned noAnswer ∧ Md w0 c wb kb mb n K sv L l I X bkl PP w' ∧ KeepOA w w' := by
  have h0 := h
  obtain ⟨S, ps, Bk, a1, a2, a3, a4⟩ := h0
  refine (take_none c S w a1.ld.at_ (by rw [a1.ld.n_]; omega) (ha S w a3)).mono ?_
  rintro e w' ⟨he, hb⟩
  exact ⟨he, h.below hX hb, KeepOA.of_below hb⟩
theorem StL.taken {w0 : World} {c wb kb mb n K : Nat} {sv : Value} {L : List MG} {l : List Ent} {I : List (Int × List UInt8)} {ps : List Peer} {S : CSt} {Bk : List ByteArray} {w w' : World} (h : StL w0 c wb kb mb n K sv L l I ps S Bk w) (hC : CoordAt w' c { S with answer := .pointer none }) (hT : Touch (fun k => k = c) w w') : StL w0 c wb kb mb n K sv L l I ps { S with answer := .pointer none } Bk w' ∧ KeepOA w w' := by
  have hk := keep_coord h.ld.at_ hT
  have hc0 := h.ws.c0
  exact ⟨⟨h.ws.step hk.1 (Abv.of_touch hT (fun q _ e => by omega)) (by decide) (by decide), ⟨hC, h.ld.id_, h.ld.n_, h.ld.bk_, h.ld.bal, h.ld.ph, h.ld.fl, h.ld.top, h.ld.again, h.ld.fetch, h.ld.prs, h.ld.len, hk.1.2 _ _ _ _ _ _ (by decide) h.ld.cho, hk.1.2 _ _ _ _ _ _ (by decide) h.ld.img, hk.2 _ _ _ h.ld.bok⟩, hk.1.2 _ _ _ _ _ _ (by decide) h.sn⟩, keep_op hk.1 (by decide)⟩
theorem md_take_done {w0 w : World} {c wb kb mb n K : Nat} {sv : Value} {L : List MG} {l : List Ent} {I : List (Int × List UInt8)} {g : Int} {bkl : Nat} {PP : List Peer → Prop} (hn1 : 1 ≤ n) (h : Md w0 c wb kb mb n K sv L l I (XDone 0 g) bkl PP w) :
    Calls Tryz.prog 13 #[.pointer (some ⟨c, 0, none⟩)] w fun e w' => e = .returned (.tuple #[.agg #[.int .i64 0, .int .i64 g, .int .i64 0, .slice none 0 0, .slice none 0 0], .bool true]) ∧ Md w0 c wb kb mb n K sv L l I XIdle bkl PP w' ∧ KeepOA w w' := by
  obtain ⟨S, ps, Bk, a1, a2, ⟨x1, x2, x3, x4, a, x5, x6⟩, a4⟩ := h
  refine (take_some c a S 0 g 0 none none 0 0 0 0 w a1.ld.at_ (by rw [a1.ld.n_]; omega) x5 x6).mono ?_
  rintro e w' ⟨rfl, hC, hT⟩
  obtain ⟨h1, h2⟩ := a1.taken hC hT
  exact ⟨rfl, ⟨_, ps, Bk, h1, a2, ⟨x1, x2, x3, x4, rfl⟩, a4⟩, h2⟩
theorem md_take_told {w0 w : World} {c wb kb mb n K k : Nat} {sv : Value} {L : List MG} {l : List Ent} {I : List (Int × List UInt8)} {bkl : Nat} {PP : List Peer → Prop} (hn1 : 1 ≤ n) (h : Md w0 c wb kb mb n K sv L l I (XTold k) bkl PP w) :
    Calls Tryz.prog 13 #[.pointer (some ⟨c, 0, none⟩)] w fun e w' => ∃ (ma : Option Addr) (mc : Nat), e = .returned (.tuple #[.agg #[.int .i64 0, .int .i64 (k : Int), .int .i64 0, .slice none 0 0, .slice ma k mc], .bool true]) ∧ RW w0 c wb kb n w' ∧ KeepOA w w' := by
  obtain ⟨S, ps, Bk, a1, a2, ⟨x1, x2, x3, a, ma, mc, x5, x6⟩, a4⟩ := h
  refine (take_some c a S 0 (k : Int) 0 none ma 0 0 k mc w a1.ld.at_ (by rw [a1.ld.n_]; omega) x5 x6).mono ?_
  rintro e w' ⟨rfl, hC, hT⟩
  obtain ⟨h1, h2⟩ := a1.taken hC hT
  exact ⟨ma, mc, rfl, ⟨K, sv, h1.ws⟩, h2⟩
theorem sideA_idle : SideA XIdle := fun S w w' h _ => h
theorem RW.keepA {w0 w w' : World} {c wb kb n : Nat} (h : RW w0 c wb kb n w) (k : KA w0 w w') : RW w0 c wb kb n w' := by
  obtain ⟨K, sv, h1⟩ := h
  exact ⟨K, sv, h1.step k.1.1 k.2 (by decide) (by decide)⟩
theorem RW.below {w0 w w' : World} {c wb kb n : Nat} (h : RW w0 c wb kb n w) (hb : Below w.heap.size w w') : RW w0 c wb kb n w' := by
  obtain ⟨K, sv, h1⟩ := h
  exact ⟨K, sv, h1.step (Ts := []) (KeepT.of_below hb) (Abv.of_below hb) (by simp) (by simp)⟩
theorem md_tick0 {w0 w : World} {c wb kb mb n K : Nat} {sv : Value} {L : List MG} {l : List Ent} {I : List (Int × List UInt8)} {X : CSt → World → Prop} {bkl : Nat} {PP : List Peer → Prop} (hn1 : 1 ≤ n) (hn9 : n ≤ 9) (hl5 : l.length ≤ 5) (hbk : bkl ≤ 400000000) (hm0 : w0.heap.size ≤ mb) (h : Md w0 c wb kb mb n K sv L l I X bkl PP w) :
    ∃ S ps Bk, Tick0 w0 c kb mb n l I ps S Bk X w ∧ Bk.length ≤ bkl ∧ PP ps := by
  obtain ⟨S, ps, Bk, a1, a2, a3, a4⟩ := h
  exact ⟨S, ps, Bk, ⟨a1.ld, a3, hn1, hn9, hl5, by omega, a1.ws.c0, hm0, a1.ws.size⟩, a2, a4⟩
theorem Tk.imp {w0 w : World} {c kb mb n : Nat} {l : List Ent} {I : List (Int × List UInt8)} {X : CSt → World → Prop} {bkl bk2 : Nat} {PP PP2 : List Peer → Prop} {w1 : World} (h : Tk w0 w c kb mb n l I X bkl PP w1) (hb : bkl ≤ bk2) (hp : ∀ ps, PP ps → PP2 ps) : Tk w0 w c kb mb n l I X bk2 PP2 w1 := by
  obtain ⟨S, ps, Bk, a1, a2, a3, a4⟩ := h.ex
  exact ⟨⟨S, ps, Bk, a1, by omega, a3, hp _ a4⟩, h.keep, h.abv⟩
theorem tickSays_imp {F G : List MG → World → Prop} {w w' : World} {e : Ending} (h : TickSays F w e w') (hi : ∀ L w', F L w' → G L w') : TickSays G w e w' := by
  obtain ⟨v, L, a1, a2, a3⟩ := h
  exact ⟨v, L, a1, a2, hi L w' a3⟩
/-- a backup's call in its rounds, behind the first -/
structure Bkp (w0 : World) (mb n K bkl : Nat) (fs : List TFile) (l : List Ent) (I : List (Int × List UInt8)) : Prop where
  n1 : 1 ≤ n
  n9 : n ≤ 9
  l4 : l.length ≤ 4
  book : bkl ≤ 300000000
  k : K ≤ 800000
  m0 : w0.heap.size ≤ mb
  cho : ChosenOk l
  img : ImgOk I l.length
  f8 : fs.length ≤ 8
  fsz : ∀ f ∈ fs, f.path.size ≤ 9223372036854775807 ∧ f.data.size ≤ 2000
  chk : checkE fs = 0
def XJob (w0 : World) (n : Nat) (left : Int) (fs : List TFile) (g : Nat) (mk : ByteArray) : CSt → World → Prop := Xt 1 left 0 (.pointer none) fs (JobIs w0 n (g : Int) mk (ba (imgL fs)) zerosM)
def imgs (I : List (Int × List UInt8)) (g : Nat) (fs : List TFile) : List (Int × List UInt8) := I ++ [((g : Int), imgL fs)]
def BM1 (w0 : World) (c wb kb mb n K bkl : Nat) (fs : List TFile) (l : List Ent) (I : List (Int × List UInt8)) (v : Nat) (w : World) : Prop :=
  ∃ mk sv L, mk.size = 32 ∧ PartsOk (l.length : Int) mk n L ∧ Md w0 c wb kb mb n (K + 100 + 300 * v) sv L l (imgs I l.length fs) (XJob w0 n 38 fs l.length mk) (bkl + 1100000) (Mix n (fun i => i < v) (PGot (l.length : Int) mk) (PPart (l.length : Int))) w
def BA2 (w0 : World) (c wb kb mb n K bkl : Nat) (fs : List TFile) (l : List Ent) (I : List (Int × List UInt8)) (w : World) : Prop :=
  ∃ mk sv L, mk.size = 32 ∧ Md w0 c wb kb mb n (K + 4000) sv L l (imgs I l.length fs) (XJob w0 n 38 fs l.length mk) (bkl + 1100000) (AllP n (PGot (l.length : Int) mk)) w
def BM2 (w0 : World) (c wb kb mb n K bkl : Nat) (fs : List TFile) (l : List Ent) (I : List (Int × List UInt8)) (v : Nat) (w : World) : Prop :=
  ∃ mk sv, mk.size = 32 ∧ AccSt w0 c wb kb mb n (K + 4000 + 9 * v) sv (acceptsL (l.length : Int) mk n) l (imgs I l.length fs) 37 0 fs (l.length : Int) mk (ba (imgL fs)) (bkl + 1100000) (AllP n (PGot (l.length : Int) mk)) v w
def BE (w0 : World) (c wb kb mb n K bkl : Nat) (fs : List TFile) (l : List Ent) (I : List (Int × List UInt8)) (w : World) : Prop :=
  ∃ mk sv L, mk.size = 32 ∧ Md w0 c wb kb mb n (K + 5000) sv L (l ++ [⟨(l.length : Int), 0, mk⟩]) (imgs I l.length fs) XIdle (bkl + 1100000) (AllP n (PGot (l.length : Int) mk)) w
theorem side_job {w0 : World} {n : Nat} {left : Int} {fs : List TFile} {g : Nat} {mk : ByteArray} : Side (XJob w0 n left fs g mk) := side_xt (jside_is _ _ _ _ _ _)
theorem sent_parts {n : Nat} {g : Int} {mk : ByteArray} {L : List MG} (hn9 : n ≤ 9) (h0 : 0 ≤ g) (h1 : g ≤ 1000000) (hm : mk.size = 32) (h : PartsOk g mk n L) : (∀ m ∈ L, SentOk n m) ∧ L.length ≤ 1000 := by
  refine ⟨fun m hm' => ?_, by have := h.len; omega⟩
  obtain ⟨u, bas, pa, po, pt, a1, rfl, a2, a3, a4, a5, a6, a7⟩ := (h.all m hm').ex
  exact fit_part a1 hn9 h0 h1 hm a2 a3 a4 a5 a6 a7
theorem sent_accepts {n : Nat} {g : Int} {mk : ByteArray} (hn9 : n ≤ 9) (h0 : 0 ≤ g) (h1 : g ≤ 1000000) (hm : mk.size = 32) : (∀ m ∈ acceptsL g mk n, SentOk n m) ∧ (acceptsL g mk n).length ≤ 1000 := by
  refine ⟨fun m hm' => ?_, by rw [acceptsL_length]; omega⟩
  obtain ⟨k, hk, rfl⟩ := List.mem_iff_getElem.1 hm'
  obtain ⟨a1, a2⟩ := acceptsL_at (List.getElem?_eq_getElem hk)
  rw [a2]
  exact fit_accept a1 hn9 h0 h1 hm
theorem sent_chosens {n : Nat} {g : Int} {mk : ByteArray} (hn9 : n ≤ 9) (h0 : 0 ≤ g) (h1 : g ≤ 1000000) (hm : mk.size = 32) : (∀ m ∈ chosensL g mk n, SentOk n m) ∧ (chosensL g mk n).length ≤ 1000 := by
  refine ⟨fun m hm' => ?_, by rw [chosensL_length]; omega⟩
  obtain ⟨k, hk, rfl⟩ := List.mem_iff_getElem.1 hm'
  obtain ⟨a1, a2⟩ := chosensL_at (List.getElem?_eq_getElem hk)
  rw [a2]
  exact fit_chosen a1 hn9 h0 h1 hm
theorem sent_asks {n : Nat} {rd : Int} (hn9 : n ≤ 9) (h0 : 0 ≤ rd) (h1 : rd ≤ 1000000) : (∀ m ∈ asksL 1 17 rd n, SentOk n m) ∧ (asksL 1 17 rd n).length ≤ 1000 := by
  refine ⟨fun m hm' => ?_, by rw [asksL_length]; omega⟩
  obtain ⟨k, hk, rfl⟩ := List.mem_iff_getElem.1 hm'
  obtain ⟨a1, a2⟩ := asksL_at (List.getElem?_eq_getElem hk)
  rw [a2]
  exact fit_ask a1 hn9 h0 h1
theorem bm1_five {w0 w : World} {c wb kb mb n K bkl v : Nat} {fs : List TFile} {l : List Ent} {I : List (Int × List UInt8)} (hb : Bkp w0 mb n K bkl fs l I) (hv : v < n) (h : BM1 w0 c wb kb mb n K bkl fs l I v w) : FiveCalls wb v w (BM1 w0 c wb kb mb n K bkl fs l I (v + 1)) := by
  obtain ⟨mk, sv, L, h1, h2, h3⟩ := h
  have hn9 := hb.n9
  have hk := hb.k
  have hlen := h2.len
  intro m0 m1 m2 m3 m4 m5 m6 m7 m8 m9 m10 m11 m12 m13 tx k0 k1 k2
  refine (five_parts side_job hv hn9 (by omega) h2 (by omega) h3 m0 m1 m2 m3 m4 m5 m6 m7 m8 m9 m10 m11 m12 m13 tx k0 k1 k2).mono ?_
  rintro e w' ⟨r, rfl, a, b⟩
  exact ⟨r, rfl, ⟨mk, sv, L, h1, h2, a.imp (by omega) (fun _ x => x)⟩, b⟩
theorem bm1_take {w0 w : World} {c wb kb mb n K bkl : Nat} {fs : List TFile} {l : List Ent} {I : List (Int × List UInt8)} (hb : Bkp w0 mb n K bkl fs l I) (h : BM1 w0 c wb kb mb n K bkl fs l I n w) :
    Calls Tryz.prog 13 #[.pointer (some ⟨c, 0, none⟩)] w fun e w' => e = .returned noAnswer ∧ BA2 w0 c wb kb mb n K bkl fs l I w' ∧ KeepOA w w' := by
  obtain ⟨mk, sv, L, h1, h2, h3⟩ := h
  have hn9 := hb.n9
  refine (md_take_none side_job hb.n1 (fun S w hx => hx.ans) h3).mono ?_
  rintro e w' ⟨he, a, b⟩
  exact ⟨he, ⟨mk, sv, L, h1, a.imp (by omega) (fun ps hp => Mix.full hp)⟩, b⟩
theorem ba2_tick {w0 w : World} {c wb kb mb n K bkl : Nat} {fs : List TFile} {l : List Ent} {I : List (Int × List UInt8)} (hb : Bkp w0 mb n K bkl fs l I) (h : BA2 w0 c wb kb mb n K bkl fs l I w) : ZeroCalls wb w (BM2 w0 c wb kb mb n K bkl fs l I 0) := by
  obtain ⟨mk, sv, L, h1, h3⟩ := h
  have hn9 := hb.n9
  have hl4 := hb.l4
  have hbk := hb.book
  intro o1 m0 m1 m2 m3 m4 m5 m6 m7 m8 m9 m10 m11 m12 m13 tx k0 k1 k2
  refine (zero_tk (LF := fun L => L = acceptsL (l.length : Int) mk n) (I2 := imgs I l.length fs) (X' := XJob w0 n 37 fs l.length mk) (bk2 := bkl + 1100000) (PP2 := AllP n (PGot (l.length : Int) mk)) side_job side_job hb.n1 hn9 h3 (fun L hL => by rw [hL]; exact sent_accepts hn9 (by omega) (by omega) h1) (fun w1 hm1 => ?_) o1 m0 m1 m2 m3 m4 m5 m6 m7 m8 m9 m10 m11 m12 m13 tx k0 k1 k2).mono ?_
  · obtain ⟨S, ps, Bk, b1, b2, b3⟩ := md_tick0 hb.n1 hn9 (by omega) (by omega) hb.m0 hm1
    refine (tick_accept b1 (by omega) rfl b3).mono ?_
    intro e w2 hs
    exact tickSays_imp hs (fun L w' hh => ⟨hh.1.imp b2 (fun _ x => x), hh.2⟩)
  · rintro e w' ⟨r, rfl, ⟨sv', L', rfl, a⟩, b⟩
    refine ⟨r, rfl, ⟨mk, sv', h1, fun hw => ?_, fun hw => ?_⟩, b⟩
    · rw [fullM_zero]
      exact a
    · rw [fullM_zero, zeroM_won n (by omega)] at hw
      cases hw
theorem bm2_five {w0 w : World} {c wb kb mb n K bkl v : Nat} {fs : List TFile} {l : List Ent} {I : List (Int × List UInt8)} (hb : Bkp w0 mb n K bkl fs l I) (hv : v < n) (h : BM2 w0 c wb kb mb n K bkl fs l I v w) : FiveCalls wb v w (BM2 w0 c wb kb mb n K bkl fs l I (v + 1)) := by
  obtain ⟨mk, sv, h1, h2⟩ := h
  have hn9 := hb.n9
  have hk := hb.k
  have hl4 := hb.l4
  intro m0 m1 m2 m3 m4 m5 m6 m7 m8 m9 m10 m11 m12 m13 tx k0 k1 k2
  refine (five_accept hv hn9 rfl (by omega) (by omega) h2 m0 m1 m2 m3 m4 m5 m6 m7 m8 m9 m10 m11 m12 m13 tx k0 k1 k2).mono ?_
  rintro e w' ⟨r, rfl, a, b⟩
  exact ⟨r, rfl, ⟨mk, sv, h1, a.mono (by omega) rfl⟩, b⟩
theorem bm2_last {w0 w : World} {c wb kb mb n K bkl : Nat} {fs : List TFile} {l : List Ent} {I : List (Int × List UInt8)} (hb : Bkp w0 mb n K bkl fs l I) (h : BM2 w0 c wb kb mb n K bkl fs l I n w) :
    Calls Tryz.prog 13 #[.pointer (some ⟨c, 0, none⟩)] w fun e w' => ∃ (fa : Option Addr) (fl fc : Nat) (ma : Option Addr) (mc : Nat), e = .returned (.tuple #[.agg #[.int .i64 0, .int .i64 (l.length : Int), .int .i64 0, .slice fa fl fc, .slice ma 0 mc], .bool true]) ∧ BE w0 c wb kb mb n K bkl fs l I w' ∧ KeepOA w w' := by
  obtain ⟨mk, sv, h1, h2⟩ := h
  have hn9 := hb.n9
  refine (md_take_done hb.n1 (h2.2 (fullM_won n (by omega) hb.n1))).mono ?_
  rintro e w' ⟨rfl, a, b⟩
  exact ⟨none, 0, 0, none, 0, rfl, ⟨mk, sv, _, h1, a.imp (by omega) (fun _ x => x)⟩, b⟩
theorem AccSt.rw {w0 : World} {c wb kb mb n K : Nat} {sv : Value} {L : List MG} {l : List Ent} {I : List (Int × List UInt8)} {left rd : Int} {fs : List TFile} {g : Int} {mk img : ByteArray} {bkl : Nat} {PP : List Peer → Prop} {m : Nat} {w : World} (h : AccSt w0 c wb kb mb n K sv L l I left rd fs g mk img bkl PP m w) : RW w0 c wb kb n w := by
  cases hw : wonT (fullM m) n with
  | false => exact (h.1 hw).rw
  | true => exact (h.2 hw).rw
theorem AccSt.below {w0 : World} {c wb kb mb n K : Nat} {sv : Value} {L : List MG} {l : List Ent} {I : List (Int × List UInt8)} {left rd : Int} {fs : List TFile} {g : Int} {mk img : ByteArray} {bkl : Nat} {PP : List Peer → Prop} {m : Nat} {w w' : World} (h : AccSt w0 c wb kb mb n K sv L l I left rd fs g mk img bkl PP m w) (hb : Below w.heap.size w w') : AccSt w0 c wb kb mb n K sv L l I left rd fs g mk img bkl PP m w' :=
  ⟨fun hw => (h.1 hw).below (side_xt (jside_is _ _ _ _ _ _)) hb, fun hw => (h.2 hw).below side_done hb⟩
end Go.Proofs.YtaemlplcjjbamaaGreatDoor
namespace Go.Proofs.YtaemlplcjjbamaaGreatDoor
open Go Go.RowKit
set_option linter.unusedVariables false
theorem mark_size (B : List ByteArray) (s : ByteArray) : (markOf B s).size = 32 := numb_size _
/-- the first rounds of a backup at a coordinator that leads -/
def BA0 (w0 : World) (c wb kb mb n K bkl : Nat) (fs : List TFile) (l : List Ent) (I : List (Int × List UInt8)) (q : Nat) (mq : ByteArray) (w : World) : Prop :=
  ∃ sv L, Md w0 c wb kb mb n K sv L l I (Xt 1 40 0 (.pointer none) fs JNone) bkl (AllP n (PGot (q : Int) mq)) w
def BM0 (w0 : World) (c wb kb mb n K bkl : Nat) (fs : List TFile) (l : List Ent) (I : List (Int × List UInt8)) (q : Nat) (mq : ByteArray) (v : Nat) (w : World) : Prop :=
  ∃ mk sv, mk.size = 32 ∧ Md w0 c wb kb mb n (K + 9 * v) sv (chosensL (q : Int) mq n) l (imgs I l.length fs) (XJob w0 n 39 fs l.length mk) (bkl + 1) (Mix n (fun i => i < v) (PFar ((q : Int) + 1)) (PGot (q : Int) mq)) w
def BA1 (w0 : World) (c wb kb mb n K bkl : Nat) (fs : List TFile) (l : List Ent) (I : List (Int × List UInt8)) (w : World) : Prop :=
  ∃ mk sv L, mk.size = 32 ∧ Md w0 c wb kb mb n (K + 100) sv L l (imgs I l.length fs) (XJob w0 n 39 fs l.length mk) (bkl + 1) (AllP n (PFar (l.length : Int))) w
theorem ba0_tick {w0 w : World} {c wb kb mb n K bkl q : Nat} {mq : ByteArray} {fs : List TFile} {l : List Ent} {I : List (Int × List UInt8)} (hb : Bkp w0 mb n K bkl fs l I) (hl : l.length = q + 1) (hm : mkF l (q : Int) = some mq) (hmq : mq.size = 32) (h : BA0 w0 c wb kb mb n K bkl fs l I q mq w) : ZeroCalls wb w (BM0 w0 c wb kb mb n K bkl fs l I q mq 0) := by
  obtain ⟨sv, L, h3⟩ := h
  have hn9 := hb.n9
  have hl4 := hb.l4
  have hbk := hb.book
  intro o1 m0 m1 m2 m3 m4 m5 m6 m7 m8 m9 m10 m11 m12 m13 tx k0 k1 k2
  have hX' : Side (fun S w => ∃ mk, mk.size = 32 ∧ XJob w0 n 39 fs l.length mk S w) := by
    rintro S S' w w' ⟨mk, a, b⟩ e1 e2 e3 e4 e5 e6 k
    exact ⟨mk, a, side_job _ _ _ _ b e1 e2 e3 e4 e5 e6 k⟩
  refine (zero_tk (LF := fun L => L = chosensL (q : Int) mq n) (I2 := imgs I l.length fs) (X' := fun S w => ∃ mk, mk.size = 32 ∧ XJob w0 n 39 fs l.length mk S w) (bk2 := bkl + 1) (PP2 := AllP n (PGot (q : Int) mq)) (side_xt jside_none) hX' hb.n1 hn9 h3 (fun L hL => by rw [hL]; exact sent_chosens hn9 (by omega) (by omega) hmq) (fun w1 hm1 => ?_) o1 m0 m1 m2 m3 m4 m5 m6 m7 m8 m9 m10 m11 m12 m13 tx k0 k1 k2).mono ?_
  · obtain ⟨S, ps, Bk, b1, b2, b3⟩ := md_tick0 hb.n1 hn9 (by omega) (by omega) hb.m0 hm1
    refine (tick_chosen b1 (by omega) hb.img hl hm b3 hb.f8 hb.fsz hb.chk).mono ?_
    intro e w2 hs
    refine tickSays_imp hs (fun L w' hh => ⟨?_, hh.2⟩)
    obtain ⟨S2, ps2, Bk2, d1, d2, d3, d4⟩ := hh.1.ex
    exact ⟨⟨S2, ps2, Bk2, d1, by omega, ⟨_, mark_size _ _, d3⟩, d4⟩, hh.1.keep, hh.1.abv⟩
  · rintro e w' ⟨r, rfl, ⟨sv', L', rfl, S, ps, Bk, d1, d2, ⟨mk, d3, d4⟩, d5⟩, b⟩
    exact ⟨r, rfl, ⟨mk, sv', d3, S, ps, Bk, d1, d2, d4, Mix.all d5⟩, b⟩
theorem bm0_five {w0 w : World} {c wb kb mb n K bkl q v : Nat} {mq : ByteArray} {fs : List TFile} {l : List Ent} {I : List (Int × List UInt8)} (hb : Bkp w0 mb n K bkl fs l I) (hl : l.length = q + 1) (hv : v < n) (h : BM0 w0 c wb kb mb n K bkl fs l I q mq v w) : FiveCalls wb v w (BM0 w0 c wb kb mb n K bkl fs l I q mq (v + 1)) := by
  obtain ⟨mk, sv, h1, h2⟩ := h
  have hn9 := hb.n9
  have hl4 := hb.l4
  intro m0 m1 m2 m3 m4 m5 m6 m7 m8 m9 m10 m11 m12 m13 tx k0 k1 k2
  refine (five_chosen side_job hv hn9 (by omega) h2 m0 m1 m2 m3 m4 m5 m6 m7 m8 m9 m10 m11 m12 m13 tx k0 k1 k2).mono ?_
  rintro e w' ⟨r, rfl, a, b⟩
  exact ⟨r, rfl, ⟨mk, sv, h1, a.imp (by omega) (fun _ x => x)⟩, b⟩
theorem bm0_take {w0 w : World} {c wb kb mb n K bkl q : Nat} {mq : ByteArray} {fs : List TFile} {l : List Ent} {I : List (Int × List UInt8)} (hb : Bkp w0 mb n K bkl fs l I) (hl : l.length = q + 1) (h : BM0 w0 c wb kb mb n K bkl fs l I q mq n w) :
    Calls Tryz.prog 13 #[.pointer (some ⟨c, 0, none⟩)] w fun e w' => e = .returned noAnswer ∧ BA1 w0 c wb kb mb n K bkl fs l I w' ∧ KeepOA w w' := by
  obtain ⟨mk, sv, h1, h3⟩ := h
  have hn9 := hb.n9
  refine (md_take_none side_job hb.n1 (fun S w hx => hx.ans) h3).mono ?_
  rintro e w' ⟨he, a, b⟩
  refine ⟨he, ⟨mk, sv, _, h1, a.imp (by omega) (fun ps hp => ?_)⟩, b⟩
  rw [hl]
  exact Mix.full hp
theorem ba1_tick {w0 w : World} {c wb kb mb n K bkl : Nat} {fs : List TFile} {l : List Ent} {I : List (Int × List UInt8)} (hb : Bkp w0 mb n K bkl fs l I) (h : BA1 w0 c wb kb mb n K bkl fs l I w) : ZeroCalls wb w (BM1 w0 c wb kb mb n K bkl fs l I 0) := by
  obtain ⟨mk, sv, L, h1, h3⟩ := h
  have hn9 := hb.n9
  have hl4 := hb.l4
  have hbk := hb.book
  intro o1 m0 m1 m2 m3 m4 m5 m6 m7 m8 m9 m10 m11 m12 m13 tx k0 k1 k2
  refine (zero_tk (LF := PartsOk (l.length : Int) mk n) (I2 := imgs I l.length fs) (X' := XJob w0 n 38 fs l.length mk) (bk2 := bkl + 1100000) (PP2 := Mix n (fun i => i < 0) (PGot (l.length : Int) mk) (PPart (l.length : Int))) side_job side_job hb.n1 hn9 h3 (fun L hL => sent_parts hn9 (by omega) (by omega) h1 hL) (fun w1 hm1 => ?_) o1 m0 m1 m2 m3 m4 m5 m6 m7 m8 m9 m10 m11 m12 m13 tx k0 k1 k2).mono ?_
  · obtain ⟨S, ps, Bk, b1, b2, b3⟩ := md_tick0 hb.n1 hn9 (by omega) (by omega) hb.m0 hm1
    refine (tick_parts b1 (by omega) hb.img rfl (imgL_small hb.f8 (fun f hf => (hb.fsz f hf).2) hb.chk) h1 b3).mono ?_
    intro e w2 hs
    exact tickSays_imp hs (fun L w' hh => ⟨hh.1.imp (by omega) (fun ps hp => Mix.all (Mix.full hp)), hh.2⟩)
  · rintro e w' ⟨r, rfl, ⟨sv', L', hL', a⟩, b⟩
    exact ⟨r, rfl, ⟨mk, sv', L', h1, hL', a.imp (by omega) (fun _ x => x)⟩, b⟩
/-- the rounds of a backup at a coordinator that leads -/
def BAm (w0 : World) (c wb kb mb n K bkl : Nat) (fs : List TFile) (l : List Ent) (I : List (Int × List UInt8)) (q : Nat) (mq : ByteArray) : Nat → World → Prop
  | 0 => BA0 w0 c wb kb mb n K bkl fs l I q mq
  | 1 => BA1 w0 c wb kb mb n K bkl fs l I
  | _ => BA2 w0 c wb kb mb n K bkl fs l I
def BMm (w0 : World) (c wb kb mb n K bkl : Nat) (fs : List TFile) (l : List Ent) (I : List (Int × List UInt8)) (q : Nat) (mq : ByteArray) : Nat → Nat → World → Prop
  | 0 => BM0 w0 c wb kb mb n K bkl fs l I q mq
  | 1 => BM1 w0 c wb kb mb n K bkl fs l I
  | _ => BM2 w0 c wb kb mb n K bkl fs l I
theorem rounds_more {w0 : World} {c wb kb mb n K bkl q : Nat} {mq : ByteArray} {fs : List TFile} {l : List Ent} {I : List (Int × List UInt8)} (hb : Bkp w0 mb n K bkl fs l I) (hl : l.length = q + 1) (hm : mkF l (q : Int) = some mq) (hmq : mq.size = 32) :
    Rounds w0 c wb kb n 3 0 (l.length : Int) (BAm w0 c wb kb mb n K bkl fs l I q mq) (BMm w0 c wb kb mb n K bkl fs l I q mq) (BE w0 c wb kb mb n K bkl fs l I) := by
  refine ⟨?_, ?_, ?_, ?_, by omega, ?_, ?_, ?_, ?_, ?_, ?_⟩
  · intro t w ht h
    obtain rfl | rfl | rfl : t = 0 ∨ t = 1 ∨ t = 2 := by omega
    · exact ba0_tick hb hl hm hmq h
    · exact ba1_tick hb h
    · exact ba2_tick hb h
  · intro t v w ht hv h
    obtain rfl | rfl | rfl : t = 0 ∨ t = 1 ∨ t = 2 := by omega
    · exact bm0_five hb hl hv h
    · exact bm1_five hb hv h
    · exact bm2_five hb hv h
  · intro t w ht h
    obtain rfl | rfl : t = 0 ∨ t = 1 := by omega
    · exact bm0_take hb hl h
    · exact bm1_take hb h
  · intro w h
    exact bm2_last hb h
  · intro t w h
    rcases t with _ | _ | t
    · obtain ⟨_, _, h⟩ := h; exact h.rw
    · obtain ⟨_, _, _, _, h⟩ := h; exact h.rw
    · obtain ⟨_, _, _, _, h⟩ := h; exact h.rw
  · intro t v w h
    rcases t with _ | _ | t
    · obtain ⟨_, _, _, h⟩ := h; exact h.rw
    · obtain ⟨_, _, _, _, _, h⟩ := h; exact h.rw
    · obtain ⟨_, _, _, h⟩ := h; exact h.rw
  · rintro w ⟨_, _, _, _, h⟩
    exact h.rw
  · intro t w w' h hb
    rcases t with _ | _ | t
    · obtain ⟨sv, L, h⟩ := h; exact ⟨sv, L, h.keepA sideA_none hb⟩
    · obtain ⟨mk, sv, L, h1, h⟩ := h; exact ⟨mk, sv, L, h1, h.keepA sideA_job hb⟩
    · obtain ⟨mk, sv, L, h1, h⟩ := h; exact ⟨mk, sv, L, h1, h.keepA sideA_job hb⟩
  · intro t v w w' h hb
    rcases t with _ | _ | t
    · obtain ⟨mk, sv, h1, h⟩ := h; exact ⟨mk, sv, h1, h.below side_job hb⟩
    · obtain ⟨mk, sv, L, h1, h2, h⟩ := h; exact ⟨mk, sv, L, h1, h2, h.below side_job hb⟩
    · obtain ⟨mk, sv, h1, h⟩ := h; exact ⟨mk, sv, h1, h.below hb⟩
  · rintro w w' ⟨mk, sv, L, h1, h⟩ hb
    exact ⟨mk, sv, L, h1, h.keepA sideA_idle hb⟩
/-- a coordinator that prepares, with a call -/
def PA0 (w0 : World) (c t wb kb mb n K bkl : Nat) (kd : Int) (fs : List TFile) (w : World) : Prop :=
  ∃ S qs Bk sv, Wst w0 c wb kb n K sv w ∧ PrC w0 c t kb mb n (fullM 0) [] qs S Bk w ∧ Bk.length ≤ bkl ∧ Xt kd 40 0 (.pointer none) fs JNone S w ∧ AllP n PNew qs
def PM0 (w0 : World) (c t wb kb mb n K bkl : Nat) (kd : Int) (fs : List TFile) (v : Nat) (w : World) : Prop := ∃ sv, PSt w0 c t wb kb mb n (K + 9 * v) sv (prepsL n) kd 39 0 fs bkl v w
def PA1 (w0 : World) (c wb kb mb n K bkl : Nat) (kd : Int) (fs : List TFile) (w : World) : Prop :=
  ∃ sv L, Md w0 c wb kb mb n (K + 100) sv L [] [] (Xt kd 39 0 (.pointer none) fs JNone) bkl (AllP n (PFar 0)) w
theorem pa0_tick {w0 w : World} {c t wb kb mb n K bkl : Nat} {kd : Int} {fs : List TFile} (h : PA0 w0 c t wb kb mb n K bkl kd fs w) : ZeroCalls wb w (PM0 w0 c t wb kb mb n K bkl kd fs 0) := by
  obtain ⟨S, qs, Bk, sv, h1, h2, h3, h4, h5⟩ := h
  exact zero_prep h1 h2 h3 h4 (by omega) h5
theorem pm0_five {w0 w : World} {c t wb kb mb n K bkl v : Nat} {kd : Int} {fs : List TFile} (hn9 : n ≤ 9) (hK : K ≤ 800000) (hv : v < n) (h : PM0 w0 c t wb kb mb n K bkl kd fs v w) : FiveCalls wb v w (PM0 w0 c t wb kb mb n K bkl kd fs (v + 1)) := by
  obtain ⟨sv, h1⟩ := h
  intro m0 m1 m2 m3 m4 m5 m6 m7 m8 m9 m10 m11 m12 m13 tx k0 k1 k2
  refine (five_prep hv hn9 (by omega) h1 m0 m1 m2 m3 m4 m5 m6 m7 m8 m9 m10 m11 m12 m13 tx k0 k1 k2).mono ?_
  rintro e w' ⟨r, rfl, a, b⟩
  exact ⟨r, rfl, ⟨sv, a.mono (by omega) rfl⟩, b⟩
theorem pm0_take {w0 w : World} {c t wb kb mb n K bkl : Nat} {kd : Int} {fs : List TFile} (hn1 : 1 ≤ n) (hn9 : n ≤ 9) (h : PM0 w0 c t wb kb mb n K bkl kd fs n w) :
    Calls Tryz.prog 13 #[.pointer (some ⟨c, 0, none⟩)] w fun e w' => e = .returned noAnswer ∧ PA1 w0 c wb kb mb n K bkl kd fs w' ∧ KeepOA w w' := by
  obtain ⟨sv, h1⟩ := h
  refine (md_take_none (side_xt jside_none) hn1 (fun S w hx => hx.ans) (h1.2 (fullM_won n (by omega) hn1))).mono ?_
  rintro e w' ⟨he, a, b⟩
  exact ⟨he, ⟨sv, _, a.imp (by omega) (fun ps hp => Mix.full hp)⟩, b⟩
theorem pa1_tick {w0 w : World} {c wb kb mb n K bkl : Nat} {fs : List TFile} (hb : Bkp w0 mb n K bkl fs [] []) (h : PA1 w0 c wb kb mb n K bkl 1 fs w) : ZeroCalls wb w (BM1 w0 c wb kb mb n K bkl fs [] [] 0) := by
  obtain ⟨sv, L, h3⟩ := h
  have hn9 := hb.n9
  have hbk := hb.book
  intro o1 m0 m1 m2 m3 m4 m5 m6 m7 m8 m9 m10 m11 m12 m13 tx k0 k1 k2
  refine (zero_tky (LF := fun mk L => mk.size = 32 ∧ PartsOk (0 : Int) mk n L) (I2 := imgs [] 0 fs) (X' := fun mk => XJob w0 n 38 fs 0 mk) (bk2 := bkl + 1100000) (PP2 := fun mk => Mix n (fun i => i < 0) (PGot (0 : Int) mk) (PPart (0 : Int))) (side_xt jside_none) (fun mk => side_job) hb.n1 hn9 h3 (fun mk L hL => sent_parts hn9 (by omega) (by omega) hL.1 hL.2) (fun w1 hm1 => ?_) o1 m0 m1 m2 m3 m4 m5 m6 m7 m8 m9 m10 m11 m12 m13 tx k0 k1 k2).mono ?_
  · obtain ⟨S, ps, Bk, b1, b2, b3⟩ := md_tick0 hb.n1 hn9 (by simp) (by omega) hb.m0 hm1
    refine (tick_first b1 (by omega) ImgOk.nil b3 hb.f8 hb.fsz hb.chk (mark_size _ _)).mono ?_
    intro e w2 hs
    exact tickSays_imp hs (fun L w' hh => ⟨_, hh.1.imp (by omega) (fun ps hp => Mix.all (Mix.full hp)), mark_size _ _, hh.2⟩)
  · rintro e w' ⟨r, rfl, ⟨mk, sv', L', ⟨h1, hL'⟩, a⟩, b⟩
    exact ⟨r, rfl, ⟨mk, sv', L', h1, hL', a.imp (by omega) (fun _ x => x)⟩, b⟩
end Go.Proofs.YtaemlplcjjbamaaGreatDoor
namespace Go.Proofs.YtaemlplcjjbamaaGreatDoor
open Go.RowKit
set_option linter.unusedVariables false
/-- what right says of a call: no more than that it answers E, and that what was there stays -/
def RightSays (b : Nat) (kind gen : Int) (fv : Value) (E : Int) (w : World) : Prop :=
  ∀ w1, Touch (fun k => k = b) w w1 → Calls Tryz.prog 20 #[.agg #[.int .i64 kind, .int .i64 gen, fv]] w1 fun e w' => e = .returned (.int .i64 E) ∧ Below w1.heap.size w1 w'
def CSt.asked (c : CSt) (v : Value) : CSt := { c with call := v, left := 40 }
end Go.Proofs.YtaemlplcjjbamaaGreatDoor
