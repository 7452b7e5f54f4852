/- CoordServes' vaults answer all that was sent to them: what each stage leaves. No condition. The walk of Handle at a promise, while the coordinator prepares. Conditions as at promise. Handle at a promise that says nothing but that it is one, at a coordinator of three vaults that knows nothing: it prepares on, or leads and knows nothing. No condition. -/
import Derived.Test.YtaemlplcjjbamaaGreatDoorBCLawAcc
import Derived.Test.YtaemlplcjjbamaaGreatDoorBBasis
import Derived.Test.YtaemlplcjjbamaaGreatDoorBPRow
import Derived.Test.YtaemlplcjjbamaaGreatDoorBKn
import Derived.Test.YtaemlplcjjbamaaGreatDoorBAsk
import Derived.Test.YtaemlplcjjbamaaGreatDoorBHeld
namespace Go.Proofs.YtaemlplcjjbamaaGreatDoor
open Go Go.RowKit
set_option linter.unusedVariables false
/-- the statement's world amid the answers -/
def Md (w0 : World) (c wb kb mb n K : Nat) (sv : Value) (L : List MG) (l : List Ent) (I : List (Int × List UInt8)) (X : CSt → World → Prop) (bkl : Nat) (PP : List Peer → Prop) (w : World) : Prop :=
  ∃ S ps Bk, StL w0 c wb kb mb n K sv L l I ps S Bk w ∧ Bk.length ≤ bkl ∧ X S w ∧ PP ps
theorem Md.below {w0 : World} {c wb kb mb n K : Nat} {sv : Value} {L : List MG} {l : List Ent} {I : List (Int × List UInt8)} {X : CSt → World → Prop} {bkl : Nat} {PP : List Peer → Prop} {w w' : World} (hX : Side X) (h : Md w0 c wb kb mb n K sv L l I X bkl PP w) (hb : Below w.heap.size w w') : Md w0 c wb kb mb n K sv L l I X bkl PP w' := by
  obtain ⟨S, ps, Bk, h1, h2, h3, h4⟩ := h
  exact ⟨S, ps, Bk, h1.below hb, h2, hX _ _ _ _ h3 rfl rfl rfl rfl rfl rfl (KeepT.of_below hb), h4⟩
theorem Md.imp {w0 : World} {c wb kb mb n K K' : Nat} {sv : Value} {L : List MG} {l : List Ent} {I : List (Int × List UInt8)} {X : CSt → World → Prop} {bkl : Nat} {PP PP' : List Peer → Prop} {w : World} (h : Md w0 c wb kb mb n K sv L l I X bkl PP w) (hK : K ≤ K') (hp : ∀ ps, PP ps → PP' ps) : Md w0 c wb kb mb n K' sv L l I X bkl PP' w := by
  obtain ⟨S, ps, Bk, h1, h2, h3, h4⟩ := h
  exact ⟨S, ps, Bk, h1.mono hK, h2, h3, hp _ h4⟩
theorem StL.blk {w0 : World} {c wb kb mb n K : Nat} {sv : Value} {L : List MG} {l : List Ent} {I : List (Int × List UInt8)} {ps : List Peer} {S : CSt} {Bk : List ByteArray} {w : World} (h : StL w0 c wb kb mb n K sv L l I ps S Bk w) : ∃ c' kb' av, Blk w wb (worldC c' kb' 1 (n : Int) sv av) 43 := by
  obtain ⟨av, k, xs, h1, _⟩ := h.ws.world
  exact ⟨c, kb, av, h1⟩
theorem reply_chosen (v : Nat) (g : Int) (mk : ByteArray) (hg : 0 ≤ g ∧ g ≤ 1000000) (w : World) : Calls Tryz.prog 32 #[.agg #[.int .i64 9, .int .i64 1, .int .i64 (v : Int), .int .i64 0, .int .i64 g, .int .i64 0, .int .i64 0, .int .i64 0, .int .i64 0, .string mk, .int .i64 0, .int .i64 0, .string ⟨#[]⟩, .slice none 0 0], .int .i64 1] w fun e w' =>
    e = .returned (.agg #[.int .i64 10, .int .i64 (v : Int), .int .i64 1, .int .i64 0, .int .i64 0, .int .i64 0, .int .i64 0, .int .i64 (g + 1), .int .i64 0, .string ⟨#[]⟩, .int .i64 0, .int .i64 0, .string ⟨#[]⟩, .slice none 0 0]) ∧ Below w.heap.size w w' := by
  refine (lawReply_9 (chosenM 1 (v : Int) g mk) 1 w hg).mono ?_
  rintro e w' ⟨o, ho, rfl, hb⟩
  have h := ho.out
  rw [clean_9] at h
  subst h
  exact ⟨rfl, hb⟩
theorem reply_part (v : Nat) (g bas pa po : Int) (mk pt : ByteArray) (hb : 0 ≤ pa ∧ pa < po ∧ po ≤ 1000000) (w : World) : Calls Tryz.prog 32 #[.agg #[.int .i64 4, .int .i64 1, .int .i64 (v : Int), .int .i64 17, .int .i64 g, .int .i64 bas, .int .i64 0, .int .i64 0, .int .i64 0, .string mk, .int .i64 pa, .int .i64 po, .string pt, .slice none 0 0], .int .i64 1] w fun e w' =>
    e = .returned (.agg #[.int .i64 5, .int .i64 (v : Int), .int .i64 1, .int .i64 17, .int .i64 g, .int .i64 0, .int .i64 0, .int .i64 0, .int .i64 (po - 1 - pa), .string mk, .int .i64 0, .int .i64 0, .string ⟨#[]⟩, .slice none 0 0]) ∧ Below w.heap.size w w' := by
  refine (lawReply_4 (partM 1 (v : Int) 17 g bas mk pa po pt) 1 w hb).mono ?_
  rintro e w' ⟨o, ho, rfl, hb⟩
  have h := ho.out
  rw [clean_4] at h
  subst h
  exact ⟨rfl, hb⟩
theorem reply_accept (v : Nat) (g : Int) (mk : ByteArray) (w : World) : Calls Tryz.prog 32 #[.agg #[.int .i64 7, .int .i64 1, .int .i64 (v : Int), .int .i64 17, .int .i64 g, .int .i64 0, .int .i64 0, .int .i64 0, .int .i64 0, .string mk, .int .i64 0, .int .i64 0, .string ⟨#[]⟩, .slice none 0 0], .int .i64 1] w fun e w' =>
    e = .returned (.agg #[.int .i64 8, .int .i64 (v : Int), .int .i64 1, .int .i64 17, .int .i64 g, .int .i64 0, .int .i64 0, .int .i64 0, .int .i64 0, .string mk, .int .i64 0, .int .i64 0, .string ⟨#[]⟩, .slice none 0 0]) ∧ Below w.heap.size w w' := by
  refine (lawReply_7 (acceptM 1 (v : Int) 17 g mk) 1 w).mono ?_
  rintro e w' ⟨o, ho, rfl, hb⟩
  have h := ho.out
  rw [clean_7] at h
  subst h
  exact ⟨rfl, hb⟩
theorem reply_ask (v : Nat) (rd : Int) (w : World) : Calls Tryz.prog 32 #[.agg #[.int .i64 11, .int .i64 1, .int .i64 (v : Int), .int .i64 17, .int .i64 0, .int .i64 0, .int .i64 0, .int .i64 0, .int .i64 rd, .string ⟨#[]⟩, .int .i64 0, .int .i64 0, .string ⟨#[]⟩, .slice none 0 0], .int .i64 1] w fun e w' =>
    e = .returned (.agg #[.int .i64 12, .int .i64 (v : Int), .int .i64 1, .int .i64 17, .int .i64 0, .int .i64 0, .int .i64 0, .int .i64 0, .int .i64 rd, .string ⟨#[]⟩, .int .i64 0, .int .i64 0, .string ⟨#[]⟩, .slice none 0 0]) ∧ Below w.heap.size w w' := by
  refine (lawReply_11 (askM 1 (v : Int) 17 rd) 1 w).mono ?_
  rintro e w' ⟨o, ho, rfl, hb⟩
  have h := ho.out
  rw [clean_11] at h
  subst h
  exact ⟨rfl, hb⟩
theorem reply_prep (v : Nat) (w : World) : Calls Tryz.prog 32 #[.agg #[.int .i64 1, .int .i64 1, .int .i64 (v : Int), .int .i64 17, .int .i64 0, .int .i64 0, .int .i64 0, .int .i64 0, .int .i64 0, .string ⟨#[]⟩, .int .i64 0, .int .i64 0, .string ⟨#[]⟩, .slice none 0 0], .int .i64 1] w fun e w' =>
    e = .returned (.agg #[.int .i64 2, .int .i64 (v : Int), .int .i64 1, .int .i64 17, .int .i64 0, .int .i64 0, .int .i64 0, .int .i64 0, .int .i64 0, .string ⟨#[]⟩, .int .i64 0, .int .i64 0, .string ⟨#[]⟩, .slice none 0 0]) ∧ Below w.heap.size w w' := by
  refine (lawReply_1 (prepM (v : Int)) 1 w).mono ?_
  rintro e w' ⟨o, ho, rfl, hb⟩
  have h := ho.out
  rw [clean_1] at h
  subst h
  exact ⟨rfl, hb⟩
theorem step_if (a k v : Nat) (h : k ≠ a) : (if a < k + 1 then v + 1 else v) = (if a < k then v + 1 else v) := by split <;> split <;> omega
/-- the argument of the statement's step -/
def FiveCalls (wb v : Nat) (w : World) (R : World → Prop) : Prop := ∀ m0 m1 m2 m3 m4 m5 m6 m7 m8 m9 m10 m11 m12 m13 tx k0 k1 k2 : Value, Calls Tryz.prog 12 #[.pointer (some ⟨wb, 0, none⟩), .agg #[.int .i64 5, .int .i64 (v : Int), m0, m1, m2, m3, m4, m5, m6, m7, m8, m9, m10, m11, m12, m13, tx, k0, k1, k2]] w fun e w' => ∃ r, e = .returned (.bool r) ∧ R w' ∧ KeepOA w w'
set_option maxHeartbeats 1000000 in
theorem five_chosen {w0 w : World} {c wb kb mb n K v : Nat} {sv : Value} {l : List Ent} {I : List (Int × List UInt8)} {X : CSt → World → Prop} {bkl : Nat} {g : Int} {mk : ByteArray} (hX : Side X) (hv : v < n) (hn9 : n ≤ 9) (hg : 0 ≤ g ∧ g ≤ 1000000)
    (h : Md w0 c wb kb mb n K sv (chosensL g mk n) l I X bkl (Mix n (fun i => i < v) (PFar (g + 1)) (PGot g mk)) w) :
    FiveCalls wb v w (Md w0 c wb kb mb n (K + n) sv (chosensL g mk n) l I X bkl (Mix n (fun i => i < v + 1) (PFar (g + 1)) (PGot g mk))) := by
  intro m0 m1 m2 m3 m4 m5 m6 m7 m8 m9 m10 m11 m12 m13 tx k0 k1 k2
  have h0 := h
  obtain ⟨_, _, _, hS0, _⟩ := h0
  obtain ⟨sa, sc, rfl⟩ := row_shape hS0.sn
  have P : FiveOk w0.heap.size wb n v sa sc (chosensL g mk n) (fun k => Md w0 c wb kb mb n (K + k) (.slice sa (chosensL g mk n).length sc) (chosensL g mk n) l I X bkl (Mix n (fun i => i < v ∨ i = v ∧ v < k) (PFar (g + 1)) (PGot g mk))) := by
    refine ⟨?_, ?_, ?_, ?_, ?_, ?_⟩
    · rintro k w1 ⟨S, ps, Bk, h1, _⟩
      exact h1.blk
    · rintro k w1 ⟨S, ps, Bk, h1, _⟩
      exact h1.sn
    · exact fun k w1 w2 h1 hb => h1.below hX hb
    · intro k m w1 hm hto h1
      obtain ⟨hk, rfl⟩ := chosensL_at hm
      have hkv : k ≠ v := fun e => hto (by rw [e]; rfl)
      exact h1.imp (by omega) (fun ps hp => hp.imp (fun i hi => by constructor <;> intro hh <;> omega))
    · intro k m hm hto
      obtain ⟨hk, rfl⟩ := chosensL_at hm
      have hkv : (k : Int) = v := hto
      obtain rfl : k = v := by omega
      refine ⟨⟨10, (k : Int), 1, 0, 0, 0, 0, g + 1, 0, ⟨#[]⟩, 0, 0, ⟨#[]⟩, none, 0, 0⟩, fun w1 => reply_chosen k g mk hg w1, ?_⟩
      rintro w1 ⟨S, ps, Bk, h1, h2, h3, h4⟩
      have hkl : k < ps.length := by rw [h1.ld.len]; omega
      have hpk := (h4 k hkl hv).2 (by omega)
      refine (law_far w0 c wb kb mb n (K + k) k _ _ l I ps S Bk 0 0 0 0 (g + 1) 0 0 0 ⟨#[]⟩ ⟨#[]⟩ none 0 0 w1 h1 hv hn9 (by decide) (by omega) hkl).mono ?_
      rintro e w2 ⟨rfl, h5, hk5⟩
      exact ⟨rfl, ⟨_, _, Bk, h5, h2, hX _ _ _ _ h3 rfl rfl rfl rfl rfl rfl (hk5.1.mono (by decide)), h4.set k _ (fun i hi => by constructor <;> intro hh <;> omega) ⟨fun _ => hpk.far, fun hh => absurd (Or.inr ⟨rfl, Nat.lt_succ_self k⟩) hh⟩⟩, keep_op hk5.1 (by decide)⟩
    · rw [chosensL_length]; omega
  refine (five_any w0.heap.size wb n v sa sc (chosensL g mk n) _ P m0 m1 m2 m3 m4 m5 m6 m7 m8 m9 m10 m11 m12 m13 tx k0 k1 k2 w (Md.imp h (Nat.le_refl K) (fun ps hp => hp.imp (fun i hi => by constructor <;> intro hh <;> omega)))).mono ?_
  rintro e w' ⟨r, rfl, h1, hko⟩
  exact ⟨r, rfl, Md.imp h1 (by rw [chosensL_length]; exact Nat.le_refl _) (fun ps hp => hp.imp (fun i hi => by rw [chosensL_length]; constructor <;> intro hh <;> omega)), hko⟩
/-- which peers of a stage are done: those ahead of v, and v itself once one of the messages that settle it has come -/
def Dn (L : List MG) (v k : Nat) (i : Nat) : Prop := i < v ∨ i = v ∧ ∃ (j : Nat) (m : MG), j < k ∧ L[j]? = some m ∧ m.to_ = (v : Int) ∧ m.po - 1 - m.pa = 0
theorem Dn.zero (L : List MG) (v i : Nat) : Dn L v 0 i ↔ i < v := ⟨fun h => h.elim id (fun ⟨_, _, _, h, _⟩ => absurd h (by omega)), Or.inl⟩
theorem Dn.other {L : List MG} {v k i : Nat} (h : i ≠ v) : Dn L v (k + 1) i ↔ Dn L v k i := ⟨fun x => x.elim Or.inl (fun y => absurd y.1 h), fun x => x.elim Or.inl (fun y => absurd y.1 h)⟩
theorem Dn.skip {L : List MG} {v k : Nat} {m : MG} (hm : L[k]? = some m) (h : m.to_ ≠ (v : Int) ∨ m.po - 1 - m.pa ≠ 0) (i : Nat) : Dn L v (k + 1) i ↔ Dn L v k i := by
  constructor
  · rintro (h1 | ⟨h1, j, m', h2, h3, h4, h5⟩)
    · exact Or.inl h1
    · by_cases e : j = k
      · subst e
        rw [hm] at h3
        injection h3 with h3
        subst h3
        rcases h with h | h
        · exact absurd h4 h
        · exact absurd h5 h
      · exact Or.inr ⟨h1, j, m', by omega, h3, h4, h5⟩
  · rintro (h1 | ⟨h1, j, m', h2, h3, h4, h5⟩)
    · exact Or.inl h1
    · exact Or.inr ⟨h1, j, m', by omega, h3, h4, h5⟩
theorem Dn.now {L : List MG} {v k : Nat} {m : MG} (hm : L[k]? = some m) (h1 : m.to_ = (v : Int)) (h2 : m.po - 1 - m.pa = 0) : Dn L v (k + 1) v := Or.inr ⟨rfl, k, m, Nat.lt_succ_self k, hm, h1, h2⟩
theorem Dn.whole {L : List MG} {v : Nat} (h : ∃ (j : Nat) (m : MG), L[j]? = some m ∧ m.to_ = (v : Int) ∧ m.po - 1 - m.pa = 0) (i : Nat) : Dn L v L.length i ↔ i < v + 1 := by
  constructor
  · rintro (h1 | ⟨h1, _⟩) <;> omega
  · intro hi
    by_cases e : i < v
    · exact Or.inl e
    · obtain ⟨j, m, a1, a2, a3⟩ := h
      exact Or.inr ⟨by omega, j, m, (List.getElem?_eq_some_iff.1 a1).1, a1, a2, a3⟩
set_option maxHeartbeats 1000000 in
theorem five_parts {w0 w : World} {c wb kb mb n K v : Nat} {sv : Value} {L : List MG} {l : List Ent} {I : List (Int × List UInt8)} {X : CSt → World → Prop} {bkl : Nat} {g : Int} {mk : ByteArray} (hX : Side X) (hv : v < n) (hn9 : n ≤ 9) (hg : 0 ≤ g) (hL : PartsOk g mk n L) (hK : K + L.length ≤ 900000)
    (h : Md w0 c wb kb mb n K sv L l I X bkl (Mix n (fun i => i < v) (PGot g mk) (PPart g)) w) :
    FiveCalls wb v w (Md w0 c wb kb mb n (K + L.length) sv L l I X bkl (Mix n (fun i => i < v + 1) (PGot g mk) (PPart g))) := by
  intro m0 m1 m2 m3 m4 m5 m6 m7 m8 m9 m10 m11 m12 m13 tx k0 k1 k2
  have h0 := h
  obtain ⟨_, _, _, hS0, _⟩ := h0
  obtain ⟨sa, sc, rfl⟩ := row_shape hS0.sn
  have P : FiveOk w0.heap.size wb n v sa sc L (fun k => Md w0 c wb kb mb n (K + k) (.slice sa L.length sc) L l I X bkl (Mix n (Dn L v k) (PGot g mk) (PPart g))) := by
    refine ⟨?_, ?_, ?_, ?_, ?_, ?_⟩
    · rintro k w1 ⟨S, ps, Bk, h1, _⟩
      exact h1.blk
    · rintro k w1 ⟨S, ps, Bk, h1, _⟩
      exact h1.sn
    · exact fun k w1 w2 h1 hb => h1.below hX hb
    · intro k m w1 hm hto h1
      exact h1.imp (by omega) (fun ps hp => hp.imp (fun i hi => Dn.skip hm (Or.inl hto) i))
    · intro k m hm hto
      have hkL : k < L.length := (List.getElem?_eq_some_iff.1 hm).1
      obtain ⟨u, bas, pa, po, pt, q1, q2, q3, q4, q5, q6, q7, q8⟩ := (hL.all m (List.mem_of_getElem? hm)).ex
      subst q2
      have huv : (u : Int) = v := hto
      obtain rfl : u = v := by omega
      refine ⟨⟨5, (u : Int), 1, 17, g, 0, 0, 0, po - 1 - pa, mk, 0, 0, ⟨#[]⟩, none, 0, 0⟩, fun w1 => reply_part u g bas pa po mk pt ⟨q5, q6, by omega⟩ w1, ?_⟩
      rintro w1 ⟨S, ps, Bk, h1, h2, h3, h4⟩
      have hkl : u < ps.length := by rw [h1.ld.len]; omega
      have hpart : PPart g ps[u] := by
        by_cases hd : Dn L u k u
        · exact ((h4 u hkl hv).1 hd).part
        · exact (h4 u hkl hv).2 hd
      refine (law_got w0 c wb kb mb n (K + k) u _ _ l I ps S Bk g 0 0 0 (po - 1 - pa) 0 0 mk ⟨#[]⟩ none 0 0 w1 h1 hv hn9 (by omega) (by omega) hkl hpart.1 (by rw [hpart.2.2.1]; exact hg)).mono ?_
      rintro e w2 ⟨rfl, h5, hk5⟩
      refine ⟨rfl, ⟨_, _, Bk, h5, h2, hX _ _ _ _ h3 rfl rfl rfl rfl rfl rfl (hk5.1.mono (by decide)), ?_⟩, keep_op hk5.1 (by decide)⟩
      by_cases hr : po - 1 - pa = 0
      · rw [hr]
        exact h4.set u _ (fun i hi => Dn.other hi) ⟨fun _ => hpart.got mk, fun hh => absurd (Dn.now hm rfl hr) hh⟩
      · refine h4.set u _ (fun i hi => Dn.other hi) ⟨fun hd => ?_, fun hd => hpart.lack mk hr⟩
        exact ((h4 u hkl hv).1 ((Dn.skip hm (Or.inr hr) u).1 hd)).lack mk hr
    · have := hL.len
      omega
  refine (five_any w0.heap.size wb n v sa sc L _ P m0 m1 m2 m3 m4 m5 m6 m7 m8 m9 m10 m11 m12 m13 tx k0 k1 k2 w (Md.imp h (Nat.le_refl K) (fun ps hp => hp.imp (fun i hi => Dn.zero L v i)))).mono ?_
  rintro e w' ⟨r, rfl, h1, hko⟩
  exact ⟨r, rfl, Md.imp h1 (Nat.le_refl _) (fun ps hp => hp.imp (fun i hi => (Dn.whole (hL.last v hv) i).symm)), hko⟩
/-- the call was answered: a generation is chosen -/
def XDone (rd g : Int) (S : CSt) (w : World) : Prop := S.call = .pointer none ∧ S.job = .pointer none ∧ S.yes = .pointer none ∧ S.read = rd ∧ ∃ a : Nat, S.answer = .pointer (some ⟨a, 0, none⟩) ∧ answerAt w a 0 g 0
theorem side_done {rd g : Int} : Side (XDone rd g) := by
  rintro S S' w w' ⟨h1, h2, h3, h4, a, h5, h6⟩ e1 e2 e3 e4 e5 e6 kp
  exact ⟨e1.trans h1, e2.trans h2, e5.trans h3, e4.trans h4, a, e6.trans h5, kp.1 _ _ _ (by decide) h6⟩
/-- m of the vaults accepted -/
def AccSt (w0 : World) (c wb kb mb n K : Nat) (sv : Value) (L : List MG) (l : List Ent) (I : List (Int × List UInt8)) (left rd : Int) (fs : List TFile) (g : Int) (mk img : ByteArray) (bkl : Nat) (PP : List Peer → Prop) (m : Nat) (w : World) : Prop :=
  (wonT (fullM m) n = false → Md w0 c wb kb mb n K sv L l I (Xt 1 left rd (.pointer none) fs (JobIs w0 n g mk img (fullM m))) bkl PP w) ∧
  (wonT (fullM m) n = true → Md w0 c wb kb mb n K sv L (l ++ [⟨g, 0, mk⟩]) I (XDone rd g) bkl PP w)
theorem AccSt.mono {w0 : World} {c wb kb mb n K K' : Nat} {sv : Value} {L : List MG} {l : List Ent} {I : List (Int × List UInt8)} {left rd : Int} {fs : List TFile} {g : Int} {mk img : ByteArray} {bkl : Nat} {PP : List Peer → Prop} {m m' : Nat} {w : World} (h : AccSt w0 c wb kb mb n K sv L l I left rd fs g mk img bkl PP m w) (hK : K ≤ K') (e : m = m') : AccSt w0 c wb kb mb n K' sv L l I left rd fs g mk img bkl PP m' w := by
  subst e
  exact ⟨fun hw => (h.1 hw).imp hK (fun _ x => x), fun hw => (h.2 hw).imp hK (fun _ x => x)⟩
theorem wonT_mono : ∀ n, n < 10 → ∀ v, v < n → wonT (fullM v) n = true → wonT (fullM (v + 1)) n = true := by decide
set_option maxHeartbeats 1000000 in
theorem five_accept {w0 w : World} {c wb kb mb n K v : Nat} {sv : Value} {l : List Ent} {I : List (Int × List UInt8)} {left rd : Int} {fs : List TFile} {g : Int} {mk img : ByteArray} {bkl : Nat} {PP : List Peer → Prop} (hv : v < n) (hn9 : n ≤ 9) (hl : (l.length : Int) = g) (hl5 : l.length ≤ 1000) (hK : K + n ≤ 900000)
    (h : AccSt w0 c wb kb mb n K sv (acceptsL g mk n) l I left rd fs g mk img bkl PP v w) :
    FiveCalls wb v w (AccSt w0 c wb kb mb n (K + n) sv (acceptsL g mk n) l I left rd fs g mk img bkl PP (v + 1)) := by
  intro m0 m1 m2 m3 m4 m5 m6 m7 m8 m9 m10 m11 m12 m13 tx k0 k1 k2
  have hsn : ∀ K m w1, AccSt w0 c wb kb mb n K sv (acceptsL g mk n) l I left rd fs g mk img bkl PP m w1 → ∃ l' ps S Bk, StL w0 c wb kb mb n K sv (acceptsL g mk n) l' I ps S Bk w1 := by
    intro K m w1 h1
    cases hw : wonT (fullM m) n with
    | false => obtain ⟨S, ps, Bk, h2, _⟩ := h1.1 hw; exact ⟨_, ps, S, Bk, h2⟩
    | true => obtain ⟨S, ps, Bk, h2, _⟩ := h1.2 hw; exact ⟨_, ps, S, Bk, h2⟩
  obtain ⟨_, _, _, _, hS0⟩ := hsn _ _ _ h
  obtain ⟨sa, sc, rfl⟩ := row_shape hS0.sn
  have P : FiveOk w0.heap.size wb n v sa sc (acceptsL g mk n) (fun k => AccSt w0 c wb kb mb n (K + k) (.slice sa (acceptsL g mk n).length sc) (acceptsL g mk n) l I left rd fs g mk img bkl PP (if v < k then v + 1 else v)) := by
    refine ⟨?_, ?_, ?_, ?_, ?_, ?_⟩
    · intro k w1 h1
      obtain ⟨_, _, _, _, h2⟩ := hsn _ _ _ h1
      exact h2.blk
    · intro k w1 h1
      obtain ⟨_, _, _, _, h2⟩ := hsn _ _ _ h1
      exact h2.sn
    · exact fun k w1 w2 h1 hb => ⟨fun hw => (h1.1 hw).below (side_xt (jside_is _ _ _ _ _ _)) hb, fun hw => (h1.2 hw).below side_done hb⟩
    · intro k m w1 hm hto h1
      obtain ⟨hk, rfl⟩ := acceptsL_at hm
      have hkv : k ≠ v := fun e => hto (by rw [e]; rfl)
      exact h1.mono (by omega) (step_if v k v hkv).symm
    · intro k m hm hto
      obtain ⟨hk, rfl⟩ := acceptsL_at hm
      have hkv : (k : Int) = v := hto
      obtain rfl : k = v := by omega
      refine ⟨⟨8, (k : Int), 1, 17, g, 0, 0, 0, 0, mk, 0, 0, ⟨#[]⟩, none, 0, 0⟩, fun w1 => reply_accept k g mk w1, ?_⟩
      intro w1 h1
      rw [if_neg (by omega)] at h1
      rw [if_pos (by omega)]
      cases hw : wonT (fullM k) n with
      | false =>
        obtain ⟨S, ps, Bk, a1, a2, a3, a4⟩ := h1.1 hw
        obtain ⟨kc, kg, ad, cap, b1, b2, b3⟩ := a3.call.ex
        refine (law_acc w0 c wb kb mb n (K + k) k _ _ l I ps S Bk kc g 0 0 0 0 0 0 mk img ⟨#[]⟩ (fullM k) none 0 0 w1 a1 hv hn9 (by omega) (by omega) hl hl5 a3.job b1).mono ?_
        rintro e w2 ⟨rfl, c1, c2, c3⟩
        rw [fullM_add n (by omega) k hv] at c1 c2
        refine ⟨rfl, ⟨fun hw2 => ?_, fun hw2 => ?_⟩, keep_op c3.1 (by decide)⟩
        · obtain ⟨d1, d2⟩ := c1 hw2
          exact ⟨S, ps, Bk, d1, a2, ⟨a3.call.keep rfl c3.1 (by decide) (by decide), a3.left, a3.read, a3.yes, a3.ans, d2⟩, a4⟩
        · obtain ⟨v', a, d1, d2, d3⟩ := c2 hw2
          exact ⟨_, ps, Bk, d1, a2, ⟨rfl, rfl, rfl, a3.read, a, rfl, d2⟩, a4⟩
      | true =>
        obtain ⟨S, ps, Bk, a1, a2, a3, a4⟩ := h1.2 hw
        refine (law_acc_none w0 c wb kb mb n (K + k) k _ _ _ I ps S Bk g 0 0 0 0 0 0 mk ⟨#[]⟩ none 0 0 w1 a1 hv hn9 (by omega) (by omega) a3.2.1).mono ?_
        rintro e w2 ⟨rfl, c1, c2⟩
        have hw2 := wonT_mono n (by omega) k hv hw
        exact ⟨rfl, ⟨(fun hw3 => by rw [hw2] at hw3; cases hw3), fun _ => ⟨S, ps, Bk, c1, a2, side_done _ _ _ _ a3 rfl rfl rfl rfl rfl rfl (c2.1.mono (by decide)), a4⟩⟩, keep_op c2.1 (by decide)⟩
    · rw [acceptsL_length]; omega
  refine (five_any w0.heap.size wb n v sa sc (acceptsL g mk n) _ P m0 m1 m2 m3 m4 m5 m6 m7 m8 m9 m10 m11 m12 m13 tx k0 k1 k2 w (h.mono (Nat.le_refl _) (by rw [if_neg (by omega)]))).mono ?_
  rintro e w' ⟨r, rfl, h1, hko⟩
  exact ⟨r, rfl, h1.mono (by rw [acceptsL_length]; exact Nat.le_refl _) (by rw [acceptsL_length, if_pos hv]), hko⟩
/-- the answers to the first question -/
theorem law_asked {w0 w1 : World} {c wb kb mb n K v : Nat} {sv : Value} {L : List MG} {l : List Ent} {I : List (Int × List UInt8)} {left rd : Int} {fs : List TFile} {bkl : Nat} {PP PP' : List Peer → Prop} (hv : v < n) (hn9 : n ≤ 9) (hK : K ≤ 900000)
    (h : Md w0 c wb kb mb n K sv L l I (XAsked w0 n left rd fs (fullM v)) bkl PP w1) (hP : ∀ ps, PP ps → ∀ (hl : v < ps.length), PP' (ps.set v (farPeer ps[v] 0 0))) :
    Calls Tryz.prog 29 #[.pointer (some ⟨wb, 0, none⟩), .agg #[.int .i64 12, .int .i64 (v : Int), .int .i64 1, .int .i64 17, .int .i64 0, .int .i64 0, .int .i64 0, .int .i64 0, .int .i64 rd, .string ⟨#[]⟩, .int .i64 0, .int .i64 0, .string ⟨#[]⟩, .slice none 0 0]] w1 fun e w2 => e = .returned (.tuple #[]) ∧
      Md w0 c wb kb mb n (K + 1) sv L l I (XAsked w0 n left rd fs (fullM (v + 1))) bkl PP' w2 ∧ KeepOA w1 w2 := by
  obtain ⟨S, ps, Bk, a1, a2, ⟨t, x1, x2, x3⟩, a4⟩ := h
  have hkl : v < ps.length := by rw [a1.ld.len]; omega
  refine (law_yes w0 c wb kb mb n K v t _ _ l I ps S Bk (fullM v) 0 0 0 0 rd 0 0 ⟨#[]⟩ ⟨#[]⟩ none 0 0 w1 a1 hv hn9 hK (by omega) hkl x1.read x1.yes x2 x3).mono ?_
  rintro e w2 ⟨rfl, h5, hta, hk5⟩
  rw [fullM_add n (by omega) v hv] at hta
  exact ⟨rfl, ⟨_, _, Bk, h5, a2, ⟨t, ⟨x1.call.keep rfl hk5.1 (by decide) (by decide), x1.left, x1.read, x1.yes, x1.ans, x1.job⟩, hta, x3⟩, hP ps a4 hkl⟩, keep_op hk5.1 (by decide)⟩
set_option maxHeartbeats 1000000 in
theorem five_ask0 {w0 w : World} {c wb kb mb n K v : Nat} {sv : Value} {l : List Ent} {I : List (Int × List UInt8)} {left rd : Int} {fs : List TFile} {bkl : Nat} {g : Int} (hv : v < n) (hn9 : n ≤ 9) (hK : K + n ≤ 900000) (hg : 0 ≤ g)
    (h : Md w0 c wb kb mb n K sv (asksL 1 17 rd n) l I (XAsked w0 n left rd fs (fullM v)) bkl (fun ps => ∀ i (hi : i < ps.length), i < n → PFar g ps[i]) w) :
    FiveCalls wb v w (Md w0 c wb kb mb n (K + n) sv (asksL 1 17 rd n) l I (XAsked w0 n left rd fs (fullM (v + 1))) bkl (fun ps => ∀ i (hi : i < ps.length), i < n → PFar g ps[i])) := by
  intro m0 m1 m2 m3 m4 m5 m6 m7 m8 m9 m10 m11 m12 m13 tx k0 k1 k2
  have h0 := h
  obtain ⟨_, _, _, hS0, _⟩ := h0
  obtain ⟨sa, sc, rfl⟩ := row_shape hS0.sn
  have P : FiveOk w0.heap.size wb n v sa sc (asksL 1 17 rd n) (fun k => Md w0 c wb kb mb n (K + k) (.slice sa (asksL 1 17 rd n).length sc) (asksL 1 17 rd n) l I (XAsked w0 n left rd fs (fullM (if v < k then v + 1 else v))) bkl (fun ps => ∀ i (hi : i < ps.length), i < n → PFar g ps[i])) := by
    refine ⟨?_, ?_, ?_, ?_, ?_, ?_⟩
    · rintro k w1 ⟨S, ps, Bk, h1, _⟩
      exact h1.blk
    · rintro k w1 ⟨S, ps, Bk, h1, _⟩
      exact h1.sn
    · exact fun k w1 w2 h1 hb => h1.below side_asked hb
    · intro k m w1 hm hto h1
      obtain ⟨hk, rfl⟩ := asksL_at hm
      have hkv : k ≠ v := fun e => hto (by rw [e]; rfl)
      rw [step_if v k v hkv]
      exact h1.imp (by omega) (fun ps hp => hp)
    · intro k m hm hto
      obtain ⟨hk, rfl⟩ := asksL_at hm
      have hkv : (k : Int) = v := hto
      obtain rfl : k = v := by omega
      refine ⟨⟨12, (k : Int), 1, 17, 0, 0, 0, 0, rd, ⟨#[]⟩, 0, 0, ⟨#[]⟩, none, 0, 0⟩, fun w1 => reply_ask k rd w1, ?_⟩
      intro w1 h1
      rw [if_neg (by omega)] at h1
      rw [if_pos (by omega)]
      refine law_asked hv hn9 (show K + k ≤ 900000 by omega) h1 (fun ps hp hl i hi hin => ?_)
      by_cases e : i = k
      · subst e
        rw [List.getElem_set_self]
        exact (hp i hl hin).again hg
      · rw [List.getElem_set_ne (Ne.symm e)]
        exact hp i (by rw [List.length_set] at hi; exact hi) hin
    · rw [asksL_length]; omega
  refine (five_any w0.heap.size wb n v sa sc (asksL 1 17 rd n) _ P m0 m1 m2 m3 m4 m5 m6 m7 m8 m9 m10 m11 m12 m13 tx k0 k1 k2 w (by rw [if_neg (by omega)]; exact h)).mono ?_
  rintro e w' ⟨r, rfl, h1, hko⟩
  rw [asksL_length, if_pos hv] at h1
  exact ⟨r, rfl, by rw [asksL_length]; exact h1, hko⟩
theorem both_at {g rd : Int} {mk : ByteArray} {n k : Nat} {m : MG} (h : (chosensL g mk n ++ asksL 1 17 rd n)[k]? = some m) : (k < n ∧ m = chosenM 1 (k : Int) g mk) ∨ (n ≤ k ∧ k < n + n ∧ m = askM 1 ((k - n : Nat) : Int) 17 rd) := by
  by_cases e : k < n
  · rw [List.getElem?_append_left (by rw [chosensL_length]; exact e)] at h
    exact Or.inl (chosensL_at h)
  · rw [List.getElem?_append_right (by rw [chosensL_length]; omega), chosensL_length] at h
    obtain ⟨h1, h2⟩ := asksL_at h
    exact Or.inr ⟨by omega, by omega, h2⟩
set_option maxHeartbeats 1000000 in
theorem five_ask {w0 w : World} {c wb kb mb n K v : Nat} {sv : Value} {l : List Ent} {I : List (Int × List UInt8)} {left rd : Int} {fs : List TFile} {bkl : Nat} {g : Int} {mk : ByteArray} (hv : v < n) (hn9 : n ≤ 9) (hK : K + (n + n) ≤ 900000) (hg : 0 ≤ g ∧ g ≤ 1000000)
    (h : Md w0 c wb kb mb n K sv (chosensL g mk n ++ asksL 1 17 rd n) l I (XAsked w0 n left rd fs (fullM v)) bkl (Mix n (fun i => i < v) (PFar (g + 1)) (PGot g mk)) w) :
    FiveCalls wb v w (Md w0 c wb kb mb n (K + (n + n)) sv (chosensL g mk n ++ asksL 1 17 rd n) l I (XAsked w0 n left rd fs (fullM (v + 1))) bkl (Mix n (fun i => i < v + 1) (PFar (g + 1)) (PGot g mk))) := by
  intro m0 m1 m2 m3 m4 m5 m6 m7 m8 m9 m10 m11 m12 m13 tx k0 k1 k2
  have h0 := h
  obtain ⟨_, _, _, hS0, _⟩ := h0
  obtain ⟨sa, sc, rfl⟩ := row_shape hS0.sn
  have hlen : (chosensL g mk n ++ asksL 1 17 rd n).length = n + n := by rw [List.length_append, chosensL_length, asksL_length]
  have P : FiveOk w0.heap.size wb n v sa sc (chosensL g mk n ++ asksL 1 17 rd n) (fun k => Md w0 c wb kb mb n (K + k) (.slice sa (chosensL g mk n ++ asksL 1 17 rd n).length sc) (chosensL g mk n ++ asksL 1 17 rd n) l I (XAsked w0 n left rd fs (fullM (if n + v < k then v + 1 else v))) bkl (Mix n (fun i => i < v ∨ i = v ∧ v < k) (PFar (g + 1)) (PGot g mk))) := by
    refine ⟨?_, ?_, ?_, ?_, ?_, ?_⟩
    · rintro k w1 ⟨S, ps, Bk, h1, _⟩
      exact h1.blk
    · rintro k w1 ⟨S, ps, Bk, h1, _⟩
      exact h1.sn
    · exact fun k w1 w2 h1 hb => h1.below side_asked hb
    · intro k m w1 hm hto h1
      have hkv : k ≠ v ∧ k ≠ n + v := by
        rcases both_at hm with ⟨hk, rfl⟩ | ⟨hk1, hk2, rfl⟩
        · have : k ≠ v := fun e => hto (by rw [e]; rfl)
          omega
        · have : k - n ≠ v := fun e => hto (by rw [e]; rfl)
          omega
      rw [step_if (n + v) k v hkv.2]
      exact h1.imp (by omega) (fun ps hp => hp.imp (fun i hi => by constructor <;> intro hh <;> omega))
    · intro k m hm hto
      rcases both_at hm with ⟨hk, rfl⟩ | ⟨hk1, hk2, rfl⟩
      · have hkv : (k : Int) = v := hto
        obtain rfl : k = v := by omega
        refine ⟨⟨10, (k : Int), 1, 0, 0, 0, 0, g + 1, 0, ⟨#[]⟩, 0, 0, ⟨#[]⟩, none, 0, 0⟩, fun w1 => reply_chosen k g mk hg w1, ?_⟩
        rintro w1 ⟨S, ps, Bk, h1, h2, h3, h4⟩
        rw [if_neg (by omega)] at h3
        rw [if_neg (by omega)]
        have hkl : k < ps.length := by rw [h1.ld.len]; omega
        have hpk := (h4 k hkl hv).2 (by omega)
        refine (law_far w0 c wb kb mb n (K + k) k _ _ l I ps S Bk 0 0 0 0 (g + 1) 0 0 0 ⟨#[]⟩ ⟨#[]⟩ none 0 0 w1 h1 hv hn9 (by decide) (by omega) hkl).mono ?_
        rintro e w2 ⟨rfl, h5, hk5⟩
        exact ⟨rfl, ⟨_, _, Bk, h5, h2, side_asked _ _ _ _ h3 rfl rfl rfl rfl rfl rfl (hk5.1.mono (by decide)), h4.set k _ (fun i hi => by constructor <;> intro hh <;> omega) ⟨fun _ => hpk.far, fun hh => absurd (Or.inr ⟨rfl, Nat.lt_succ_self k⟩) hh⟩⟩, keep_op hk5.1 (by decide)⟩
      · have hkv : ((k - n : Nat) : Int) = v := hto
        have hkv2 : k = n + v := by omega
        rw [show k - n = v by omega]
        refine ⟨⟨12, (v : Int), 1, 17, 0, 0, 0, 0, rd, ⟨#[]⟩, 0, 0, ⟨#[]⟩, none, 0, 0⟩, fun w1 => reply_ask v rd w1, ?_⟩
        intro w1 h1
        rw [if_neg (by omega)] at h1
        rw [if_pos (by omega)]
        refine law_asked hv hn9 (show K + k ≤ 900000 by omega) h1 (fun ps hp hl => ?_)
        have hpk := (hp v hl hv).1 (by omega)
        exact hp.set v _ (fun i hi => by constructor <;> intro hh <;> omega) ⟨fun _ => hpk.again (by omega), fun hh => absurd (Or.inr ⟨rfl, by omega⟩) hh⟩
    · rw [hlen]; omega
  refine (five_any w0.heap.size wb n v sa sc (chosensL g mk n ++ asksL 1 17 rd n) _ P m0 m1 m2 m3 m4 m5 m6 m7 m8 m9 m10 m11 m12 m13 tx k0 k1 k2 w (by rw [if_neg (by omega)]; exact Md.imp h (Nat.le_refl K) (fun ps hp => hp.imp (fun i hi => by constructor <;> intro hh <;> omega)))).mono ?_
  rintro e w' ⟨r, rfl, h1, hko⟩
  rw [hlen, if_pos (by omega)] at h1
  exact ⟨r, rfl, by rw [hlen]; exact Md.imp h1 (Nat.le_refl _) (fun ps hp => hp.imp (fun i hi => by constructor <;> intro hh <;> omega)), hko⟩
theorem five_nil {w0 w : World} {c wb kb mb n K v : Nat} {sv : Value} {l : List Ent} {I : List (Int × List UInt8)} {X : CSt → World → Prop} {bkl : Nat} {PP : List Peer → Prop} (hX : Side X) (h : Md w0 c wb kb mb n K sv [] l I X bkl PP w) : FiveCalls wb v w (Md w0 c wb kb mb n K sv [] l I X bkl PP) := by
  intro m0 m1 m2 m3 m4 m5 m6 m7 m8 m9 m10 m11 m12 m13 tx k0 k1 k2
  have h0 := h
  obtain ⟨_, _, _, hS0, _⟩ := h0
  obtain ⟨sa, sc, rfl⟩ := row_shape hS0.sn
  refine (five_any w0.heap.size wb n v sa sc [] (fun _ => Md w0 c wb kb mb n K (.slice sa ([] : List MG).length sc) [] l I X bkl PP) ⟨?_, ?_, ?_, ?_, ?_, ?_⟩ m0 m1 m2 m3 m4 m5 m6 m7 m8 m9 m10 m11 m12 m13 tx k0 k1 k2 w h)
  · rintro k w1 ⟨S, ps, Bk, h1, _⟩
    exact h1.blk
  · rintro k w1 ⟨S, ps, Bk, h1, _⟩
    exact h1.sn
  · exact fun k w1 w2 h1 hb => h1.below hX hb
  · intro k m w1 hm
    cases hm
  · intro k m hm
    cases hm
  · simp
end Go.Proofs.YtaemlplcjjbamaaGreatDoor
namespace Go.Proofs.YtaemlplcjjbamaaGreatDoor
open Go.RowKit
def noPeer : Peer := ⟨false, 0, 0, 0, ⟨#[]⟩, false, 0, .pointer none⟩
set_option maxRecDepth 100000 in
set_option maxHeartbeats 4000000 in
/-- Handle, a promise of the coordinator's own ballot, while it prepares: what 'promise' does -/
theorem handle_promise {R : Ending → World → Prop} (w0 : World) (c t : Nat) (S : CSt) (n : Nat) (m : List Bool) (ps : List Prom) (qs : List Peer) (v : Nat) (gen basis fl tp rd pa po : Int) (mk pt : ByteArray) (ls : Value) (w : World)
    (h : Prep w0 w c t S n m ps qs) (hv : v < n) (hph : S.phase = 1)
    (hp : ∀ w1, Below w.heap.size w w1 → Calls Tryz.prog 79 #[.pointer (some ⟨c, 0, none⟩), .agg #[.int .i64 2, .int .i64 (v : Int), .int .i64 S.id, .int .i64 S.ballot, .int .i64 gen, .int .i64 basis, .int .i64 fl, .int .i64 tp, .int .i64 rd, .string mk, .int .i64 pa, .int .i64 po, .string pt, ls]] w1 fun e w' => e = .returned (.tuple #[]) ∧ R e w') :
    Calls Tryz.prog 47 #[.pointer (some ⟨c, 0, none⟩), .agg #[.int .i64 2, .int .i64 (v : Int), .int .i64 S.id, .int .i64 S.ballot, .int .i64 gen, .int .i64 basis, .int .i64 fl, .int .i64 tp, .int .i64 rd, .string mk, .int .i64 pa, .int .i64 po, .string pt, ls]] w R := by
  have hat := h.at_
  have hcl := hat.1.lt
  have hn1 := h.n1
  have hn := h.n_
  have hvn : (v : Int) < (n : Int) := by omega
  have c0 : w.cell? ⟨c, 0, none⟩ = some (.int .i64 S.id) := hat.hd 0 (by omega)
  have c1 : w.cell? ⟨c, 1, none⟩ = some (.int .i64 (n : Int)) := by rw [← hn]; exact hat.hd 1 (by omega)
  have c3 : w.cell? ⟨c, 3, none⟩ = some (.int .i64 S.ballot) := hat.hd 3 (by omega)
  have c4 : w.cell? ⟨c, 4, none⟩ = some (.int .i64 1) := by rw [← hph]; exact hat.hd 4 (by omega)
  have Hat := Lib.hid hat
  have Hn := Lib.hid (show 1 ≤ S.n by omega)
  have HP := Lib.hid hp
  clear h hat hn hph hp
  go_enter Tryz.func47, Tryz.ntmps47
  go_wp2
  have Hat1 := Lib.hid (Hat.out.alloc (.cells #[.int .i64 2, .int .i64 (v : Int), .int .i64 S.id, .int .i64 S.ballot, .int .i64 gen, .int .i64 basis, .int .i64 fl, .int .i64 tp, .int .i64 rd, .string mk, .int .i64 pa, .int .i64 po, .string pt, ls] 30))
  go_quiet ((go_at_call 18; first | exact quiet_left (none_any c S _ (Hat1.out.drewN _) Hn.out) | exact quiet_add_left (none_any c S _ (Hat1.out.drewN _) Hn.out)))
  go_wp2
  go_quiet (fail)
  go_wp2_with fail
  have hb1 := (Below.refl w.heap.size w).alloc (Nat.le_refl _) (.cells #[.int .i64 2, .int .i64 (v : Int), .int .i64 S.id, .int .i64 S.ballot, .int .i64 gen, .int .i64 basis, .int .i64 fl, .int .i64 tp, .int .i64 rd, .string mk, .int .i64 pa, .int .i64 po, .string pt, ls] 30)
  refine (HP.out _ (by repeat (first | exact hb1 | refine below_drewN ?_ _))).mono ?_
  rintro e w2 ⟨rfl, hR⟩
  have HR := Lib.hid hR
  clear hR
  go_wp2_with fail
  refine bodyPost_ret (results_none rfl _ _ _) rfl ?_
  exact HR.out
end Go.Proofs.YtaemlplcjjbamaaGreatDoor
namespace Go.Proofs.YtaemlplcjjbamaaGreatDoor
open Go Go.RowKit
set_option linter.unusedVariables false
def FlatP (ps : List Prom) : Prop := ∀ p ∈ ps, p.floor = 0 ∧ p.top = 0 ∧ p.list = []
theorem flat_floor {ps : List Prom} (h : FlatP ps) : floorFrom 0 ps = 0 := by
  induction ps with
  | nil => rfl
  | cons p ps ih =>
    have h1 := h p (List.mem_cons.2 (Or.inl rfl))
    have h2 := ih (fun q hq => h q (List.mem_cons.2 (Or.inr hq)))
    unfold floorFrom at h2 ⊢
    rw [List.foldl_cons, h1.1]
    exact h2
theorem flat_top {ps : List Prom} (h : FlatP ps) : topOf ps = 0 := by
  unfold topOf
  induction ps with
  | nil => rfl
  | cons p ps ih =>
    have h1 := h p (List.mem_cons.2 (Or.inl rfl))
    have h2 := ih (fun q hq => h q (List.mem_cons.2 (Or.inr hq)))
    unfold topFrom at h2 ⊢
    rw [List.foldl_cons, h1.2.1]
    exact h2
theorem flat_floorOf {ps : List Prom} (h : FlatP ps) : floorOf ps = 0 := by
  unfold floorOf
  rw [flat_floor h, flat_top h]
  rfl
theorem flat_none {ps : List Prom} (h : FlatP ps) : flat ps = [] := by
  induction ps with
  | nil => rfl
  | cons p ps ih =>
    have h1 := h p (List.mem_cons.2 (Or.inl rfl))
    have h2 := ih (fun q hq => h q (List.mem_cons.2 (Or.inr hq)))
    unfold flat at h2 ⊢
    rw [List.flatMap_cons, h1.2.2, h2]
    rfl
theorem flat_again {ps : List Prom} (h : FlatP ps) : againOf ps = [] := by
  unfold againOf againFrom greatOf greatFrom
  rw [flat_none h]
  rfl
end Go.Proofs.YtaemlplcjjbamaaGreatDoor
