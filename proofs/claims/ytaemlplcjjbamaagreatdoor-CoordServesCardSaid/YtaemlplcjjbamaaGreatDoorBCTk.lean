/- The plain words of CoordServes' way: peers that stand alike, what is sent, what waits. No condition. The ticks of CoordServes' coordinator while it leads: what each sends and leaves. Condition: all its vaults stand alike. -/
import Derived.Test.YtaemlplcjjbamaaGreatDoorBCAsk1
import Derived.Test.YtaemlplcjjbamaaGreatDoorBReached
import Derived.Test.YtaemlplcjjbamaaGreatDoorBCHas
namespace Go.Proofs.YtaemlplcjjbamaaGreatDoor
open Go Go.RowKit
set_option linter.unusedVariables false
/-- a vault has g, whose mark is mk -/
def PGot (g : Int) (mk : ByteArray) (p : Peer) : Prop := p.told = true ∧ p.floor = 0 ∧ p.top = g ∧ p.whole = false ∧ p.has = g ∧ p.mark = mk
/-- a vault has all below g; nothing of g is sent to it -/
def PFar (g : Int) (p : Peer) : Prop := p.told = true ∧ p.floor = 0 ∧ p.top = g ∧ p.whole = false ∧ p.pack = .pointer none ∧ (p.has ≠ g ∨ p.mark.size ≠ 32)
def PPart (g : Int) (p : Peer) : Prop := p.told = true ∧ p.floor = 0 ∧ p.top = g ∧ p.whole = false
theorem PGot.part {g : Int} {mk : ByteArray} {p : Peer} (h : PGot g mk p) : PPart g p := ⟨h.1, h.2.1, h.2.2.1, h.2.2.2.1⟩
theorem PFar.part {g : Int} {p : Peer} (h : PFar g p) : PPart g p := ⟨h.1, h.2.1, h.2.2.1, h.2.2.2.1⟩
theorem PGot.far {g : Int} {mk : ByteArray} {p : Peer} (h : PGot g mk p) : PFar (g + 1) (farPeer p 0 (g + 1)) := by
  obtain ⟨h1, h2, h3, h4, h5, h6⟩ := h
  unfold farPeer
  rw [if_pos (Or.inr (by omega))]
  exact ⟨rfl, by show max p.floor 0 = 0; rw [h2]; rfl, rfl, rfl, rfl, Or.inl (by show p.has ≠ g + 1; omega)⟩
theorem PFar.again {g : Int} {p : Peer} (h : PFar g p) {t : Int} (ht : t ≤ g) : PFar g (farPeer p 0 t) := by
  obtain ⟨h1, h2, h3, h4, h5, h6⟩ := h
  unfold farPeer
  rw [if_neg (by rw [h1]; simp; omega)]
  exact ⟨rfl, by show max p.floor 0 = 0; rw [h2]; rfl, h3, h4, h5, h6⟩
theorem PPart.got {g : Int} {p : Peer} (h : PPart g p) (mk : ByteArray) : PGot g mk (gotPeer p g 0 mk) := by
  obtain ⟨h1, h2, h3, h4⟩ := h
  unfold gotPeer
  rw [if_pos rfl]
  exact ⟨rfl, h2, h3, h4, rfl, rfl⟩
theorem PPart.lack {g : Int} {p : Peer} (h : PPart g p) (mk : ByteArray) {rd : Int} (hr : rd ≠ 0) : PPart g (gotPeer p g rd mk) := by
  obtain ⟨h1, h2, h3, h4⟩ := h
  unfold gotPeer
  rw [if_neg hr]
  exact ⟨rfl, h2, h3, h4⟩
theorem PGot.lack {g : Int} {mk : ByteArray} {p : Peer} (h : PGot g mk p) (mk2 : ByteArray) {rd : Int} (hr : rd ≠ 0) : PGot g mk (gotPeer p g rd mk2) := by
  obtain ⟨h1, h2, h3, h4, h5, h6⟩ := h
  unfold gotPeer
  rw [if_neg hr]
  exact ⟨rfl, h2, h3, h4, h5, h6⟩
/-- of the first n peers those in D are so, the others so -/
def Mix (n : Nat) (D : Nat → Prop) (P Q : Peer → Prop) (ps : List Peer) : Prop := ∀ i (h : i < ps.length), i < n → (D i → P ps[i]) ∧ (¬ D i → Q ps[i])
theorem Mix.imp {n : Nat} {D D' : Nat → Prop} {P Q : Peer → Prop} {ps : List Peer} (h : Mix n D P Q ps) (hd : ∀ i, i < n → (D' i ↔ D i)) : Mix n D' P Q ps := fun i hl hi => ⟨fun x => (h i hl hi).1 ((hd i hi).1 x), fun x => (h i hl hi).2 (fun y => x ((hd i hi).2 y))⟩
theorem Mix.set {n : Nat} {D D' : Nat → Prop} {P Q : Peer → Prop} {ps : List Peer} (h : Mix n D P Q ps) (v : Nat) (p : Peer) (hd : ∀ i, i ≠ v → (D' i ↔ D i)) (hp : (D' v → P p) ∧ (¬ D' v → Q p)) : Mix n D' P Q (ps.set v p) := by
  intro i hl hi
  by_cases e : i = v
  · subst e
    rw [List.getElem_set_self]
    exact hp
  · rw [List.getElem_set_ne (Ne.symm e)]
    rw [List.length_set] at hl
    exact ⟨fun x => (h i hl hi).1 ((hd i e).1 x), fun x => (h i hl hi).2 (fun y => x ((hd i e).2 y))⟩
theorem Mix.all {n : Nat} {P Q : Peer → Prop} {ps : List Peer} (h : ∀ i (hl : i < ps.length), i < n → Q ps[i]) : Mix n (fun i => i < 0) P Q ps := fun i hl hi => ⟨fun x => absurd x (by omega), fun _ => h i hl hi⟩
theorem Mix.full {n : Nat} {P Q : Peer → Prop} {ps : List Peer} (h : Mix n (fun i => i < n) P Q ps) : ∀ i (hl : i < ps.length), i < n → P ps[i] := fun i hl hi => (h i hl hi).1 hi
/-- what is known as chosen: g generations, each with a mark -/
def ChosenOk (l : List Ent) : Prop := ∀ i, i < l.length → ∃ mk, l[i]? = some ⟨(i : Int), 0, mk⟩ ∧ mk.size = 32
theorem ChosenOk.nil : ChosenOk [] := fun i hi => absurd hi (by simp)
theorem ChosenOk.snoc {l : List Ent} (h : ChosenOk l) {mk : ByteArray} (hm : mk.size = 32) : ChosenOk (l ++ [⟨(l.length : Int), 0, mk⟩]) := by
  intro i hi
  rw [List.length_append, List.length_singleton] at hi
  by_cases e : i < l.length
  · obtain ⟨m, h1, h2⟩ := h i e
    exact ⟨m, by rw [List.getElem?_append_left e]; exact h1, h2⟩
  · obtain rfl : i = l.length := by omega
    exact ⟨mk, by rw [List.getElem?_append_right (Nat.le_refl _)]; simp, hm⟩
theorem ChosenOk.mkF {l : List Ent} (h : ChosenOk l) {i : Nat} (hi : i < l.length) : ∃ mk, mkF l (i : Int) = some mk ∧ l[i]? = some ⟨(i : Int), 0, mk⟩ ∧ mk.size = 32 := by
  obtain ⟨mk, h1, h2⟩ := h i hi
  refine ⟨mk, mkF_some h1 rfl (fun j hj y hy => ?_), h1, h2⟩
  obtain ⟨m, h3, _⟩ := h j (by omega)
  rw [h3] at hy
  injection hy with hy
  subst hy
  show (j : Int) ≠ i
  omega
/-- the images at hand: of the first generations -/
def ImgOk (I : List (Int × List UInt8)) (k : Nat) : Prop := I.length = k ∧ ∀ (i : Nat) (x : Int × List UInt8), I[i]? = some x → x.1 = (i : Int) ∧ x.2.length ≤ 30000
theorem ImgOk.nil : ImgOk [] 0 := ⟨rfl, fun i x h => by simp at h⟩
theorem ImgOk.snoc {I : List (Int × List UInt8)} {k : Nat} (h : ImgOk I k) {T : List UInt8} (hT : T.length ≤ 30000) : ImgOk (I ++ [((k : Int), T)]) (k + 1) := by
  refine ⟨by rw [List.length_append, h.1]; rfl, fun i x hx => ?_⟩
  by_cases e : i < I.length
  · rw [List.getElem?_append_left e] at hx
    exact h.2 i x hx
  · rw [List.getElem?_append_right (by omega)] at hx
    have hi : i - I.length = 0 := by
      rcases Nat.eq_zero_or_pos (i - I.length) with h0 | h0
      · exact h0
      · rw [List.getElem?_eq_none (by simp; omega)] at hx
        cases hx
    rw [hi] at hx
    simp at hx
    subst hx
    have hk := h.1
    exact ⟨by show (k : Int) = i; omega, hT⟩
theorem ImgOk.new {I : List (Int × List UInt8)} {k : Nat} (h : ImgOk I k) : NewGen I (k : Int) := by
  intro i hi y hy
  have := (h.2 i y hy).1
  have hk := h.1
  omega
theorem ImgOk.top {I : List (Int × List UInt8)} {k : Nat} (h : ImgOk I k) (T : List UInt8) : knF (I ++ [((k : Int), T)]) (k : Int) = some T := by
  refine knF_some (k := I.length) (x := ((k : Int), T)) (by rw [List.getElem?_append_right (Nat.le_refl _)]; simp) rfl (fun i hi y hy => ?_)
  rw [List.getElem?_append_left hi] at hy
  exact h.new i hi y hy
theorem ImgOk.small {I : List (Int × List UInt8)} {k : Nat} (h : ImgOk I k) : ∀ x ∈ I, x.2.length ≤ 30000 := by
  intro x hx
  obtain ⟨i, hi, rfl⟩ := List.mem_iff_getElem.1 hx
  exact (h.2 i _ (List.getElem?_eq_getElem hi)).2
theorem imgL_small {fs : List TFile} (h8 : fs.length ≤ 8) (hd : ∀ f ∈ fs, f.data.size ≤ 2000) (hc : checkE fs = 0) : (imgL fs).length ≤ 30000 := by
  have h1 := headL_len fs (fun f hf => ⟨check_ok hc f hf, hd f hf⟩)
  have h2 := bodyL_len fs hd
  have h3 := cnL_le (n := fs.length) (by omega)
  unfold imgL headL
  rw [List.length_append, List.length_append]
  omega
/-- what is sent -/
def chosensL (g : Int) (mk : ByteArray) (n : Nat) : List MG := (List.range n).map fun (i : Nat) => chosenM 1 (i : Int) g mk
def acceptsL (g : Int) (mk : ByteArray) (n : Nat) : List MG := (List.range n).map fun (i : Nat) => acceptM 1 (i : Int) 17 g mk
theorem chosensL_succ (g : Int) (mk : ByteArray) (k : Nat) : chosensL g mk (k + 1) = chosensL g mk k ++ [chosenM 1 (k : Int) g mk] := by
  unfold chosensL
  rw [List.range_succ, List.map_append]
  rfl
theorem acceptsL_succ (g : Int) (mk : ByteArray) (k : Nat) : acceptsL g mk (k + 1) = acceptsL g mk k ++ [acceptM 1 (k : Int) 17 g mk] := by
  unfold acceptsL
  rw [List.range_succ, List.map_append]
  rfl
theorem chosensL_length (g : Int) (mk : ByteArray) (k : Nat) : (chosensL g mk k).length = k := by simp [chosensL]
theorem acceptsL_length (g : Int) (mk : ByteArray) (k : Nat) : (acceptsL g mk k).length = k := by simp [acceptsL]
theorem chosensL_at {g : Int} {mk : ByteArray} {n k : Nat} {m : MG} (h : (chosensL g mk n)[k]? = some m) : k < n ∧ m = chosenM 1 (k : Int) g mk := by
  unfold chosensL at h
  rw [List.getElem?_map] at h
  by_cases e : k < n
  · rw [List.getElem?_range e] at h
    exact ⟨e, by simpa using h.symm⟩
  · rw [List.getElem?_eq_none (by simpa using e)] at h
    cases h
theorem acceptsL_at {g : Int} {mk : ByteArray} {n k : Nat} {m : MG} (h : (acceptsL g mk n)[k]? = some m) : k < n ∧ m = acceptM 1 (k : Int) 17 g mk := by
  unfold acceptsL at h
  rw [List.getElem?_map] at h
  by_cases e : k < n
  · rw [List.getElem?_range e] at h
    exact ⟨e, by simpa using h.symm⟩
  · rw [List.getElem?_eq_none (by simpa using e)] at h
    cases h
theorem asksL_at {rd : Int} {n k : Nat} {m : MG} (h : (asksL 1 17 rd n)[k]? = some m) : k < n ∧ m = askM 1 (k : Int) 17 rd := by
  unfold asksL at h
  rw [List.getElem?_map] at h
  by_cases e : k < n
  · rw [List.getElem?_range e] at h
    exact ⟨e, by simpa using h.symm⟩
  · rw [List.getElem?_eq_none (by simpa using e)] at h
    cases h
/-- a part of generation g for one of the first v vaults -/
structure IsPart (g : Int) (mk : ByteArray) (v : Nat) (m : MG) : Prop where
  ex : ∃ (u : Nat) (bas pa po : Int) (pt : ByteArray), u < v ∧ m = partM 1 (u : Int) 17 g bas mk pa po pt ∧ 0 ≤ bas ∧ bas ≤ g ∧ 0 ≤ pa ∧ pa < po ∧ po ≤ 30 ∧ pt.size ≤ 1024
/-- the parts for the first v vaults, the last one of each among them -/
structure PartsOk (g : Int) (mk : ByteArray) (v : Nat) (L : List MG) : Prop where
  all : ∀ m ∈ L, IsPart g mk v m
  last : ∀ u, u < v → ∃ (j : Nat) (m : MG), L[j]? = some m ∧ m.to_ = (u : Int) ∧ m.po - 1 - m.pa = 0
  len : L.length ≤ 30 * v
theorem PartsOk.nil (g : Int) (mk : ByteArray) : PartsOk g mk 0 [] := ⟨(fun m hm => by cases hm), (fun u hu => absurd hu (by omega)), by simp⟩
theorem piece_small (s : ByteArray) (i : Nat) : (piece s 1024 i).size ≤ 1024 := by
  unfold piece
  simp [ByteArray.size_extract]
  omega
theorem PartsOk.snoc {g : Int} {mk : ByteArray} {v : Nat} {L : List MG} (h : PartsOk g mk v L) (bas : Int) (s : ByteArray) (hs : s.size ≤ 30001) (h0 : 0 ≤ bas) (h1 : bas ≤ g) : PartsOk g mk (v + 1) (L ++ partsL 1 (v : Int) 17 g bas mk s (npieces s.size 1024)) := by
  obtain ⟨hn1, hn2⟩ := npieces_small hs
  generalize hN : npieces s.size 1024 = N at hn1 hn2
  have hat : ∀ i, i < N → (partsL 1 (v : Int) 17 g bas mk s N)[i]? = some (partM 1 (v : Int) 17 g bas mk (i : Int) (N : Nat) (piece s 1024 i)) := fun i hi => by
    unfold partsL
    rw [List.getElem?_map, List.getElem?_range hi, hN]
    rfl
  refine ⟨fun m hm => ?_, fun u hu => ?_, ?_⟩
  · rcases List.mem_append.1 hm with hm | hm
    · obtain ⟨u, b, pa, po, pt, a1, a2⟩ := (h.all m hm).ex
      exact ⟨u, b, pa, po, pt, by omega, a2⟩
    · obtain ⟨i, hi, rfl⟩ := List.mem_iff_getElem.1 hm
      have hi2 : i < N := by rw [partsL_length] at hi; exact hi
      have e := (List.getElem?_eq_getElem hi).symm.trans (hat i hi2)
      injection e with e
      exact ⟨v, bas, i, N, piece s 1024 i, by omega, e, h0, h1, by omega, by omega, by omega, piece_small s i⟩
  · by_cases e : u < v
    · obtain ⟨j, m, a1, a2, a3⟩ := h.last u e
      refine ⟨j, m, ?_, a2, a3⟩
      rw [List.getElem?_append_left (List.getElem?_eq_some_iff.1 a1).1]
      exact a1
    · obtain rfl : u = v := by omega
      refine ⟨L.length + (N - 1), _, by rw [List.getElem?_append_right (by omega), Nat.add_sub_cancel_left]; exact hat (N - 1) (by omega), rfl, ?_⟩
      show (N : Int) - 1 - ((N - 1 : Nat) : Int) = 0
      omega
  · rw [List.length_append, partsL_length]
    have := h.len
    omega
end Go.Proofs.YtaemlplcjjbamaaGreatDoor
namespace Go.Proofs.YtaemlplcjjbamaaGreatDoor
open Go Go.RowKit
set_option linter.unusedVariables false
/-- the call that waits, and its files -/
structure CallIs (kd : Int) (fs : List TFile) (S : CSt) (w : World) : Prop where
  ex : ∃ (kc : Nat) (kg : Int) (ad : Option Addr) (cap : Nat), S.call = .pointer (some ⟨kc, 0, none⟩) ∧ Blk w kc [.int .i64 kd, .int .i64 kg, .slice ad fs.length cap] 33 ∧ w.ownsRow 0 65 3 (.slice ad fs.length cap) fs.length (tfsVals fs)
/-- what is being proposed, and who accepted it -/
structure JobIs (w0 : World) (n : Nat) (g : Int) (mk img : ByteArray) (m : List Bool) (S : CSt) (w : World) : Prop where
  ex : ∃ j ta tf : Nat, S.job = .pointer (some ⟨j, 0, none⟩) ∧ Blk w j (jobVals g 17 mk img ta tf true false) 104 ∧ TallyAt w ta n m ∧ w0.heap.size ≤ ta
def JNone (S : CSt) (w : World) : Prop := S.job = .pointer none
/-- what else is known while a call waits -/
structure Xt (kd left rd : Int) (yes : Value) (fs : List TFile) (J : CSt → World → Prop) (S : CSt) (w : World) : Prop where
  call : CallIs kd fs S w
  left : S.left = left
  read : S.read = rd
  yes : S.yes = yes
  ans : S.answer = .pointer none
  job : J S w
/-- types whose blocks may turn while a fact of this kind stays -/
def tyK : List TypeId := [78, 151, 30, 102, 43, 57]
def Side (X : CSt → World → Prop) : Prop := ∀ S S' w w', X S w → S'.call = S.call → S'.job = S.job → S'.left = S.left → S'.read = S.read → S'.yes = S.yes → S'.answer = S.answer → KeepT tyK w w' → X S' w'
theorem CallIs.keep {kd : Int} {fs : List TFile} {S S' : CSt} {w w' : World} {Ts : List TypeId} (h : CallIs kd fs S w) (e : S'.call = S.call) (k : KeepT Ts w w') (h1 : ¬ 33 ∈ Ts) (h2 : ¬ 65 ∈ Ts) : CallIs kd fs S' w' := by
  obtain ⟨kc, kg, ad, cap, a1, a2, a3⟩ := h.ex
  exact ⟨⟨kc, kg, ad, cap, e.trans a1, k.1 _ _ _ h1 a2, k.2 _ _ _ _ _ _ h2 a3⟩⟩
theorem JobIs.keep {w0 : World} {n : Nat} {g : Int} {mk img : ByteArray} {m : List Bool} {S S' : CSt} {w w' : World} {Ts : List TypeId} (h : JobIs w0 n g mk img m S w) (e : S'.job = S.job) (k : KeepT Ts w w') (h1 : ¬ 104 ∈ Ts) (h2 : ¬ 115 ∈ Ts) : JobIs w0 n g mk img m S' w' := by
  obtain ⟨j, ta, tf, a1, a2, a3, a4⟩ := h.ex
  exact ⟨⟨j, ta, tf, e.trans a1, k.1 _ _ _ h1 a2, a3.keep k h2, a4⟩⟩
def JSide (J : CSt → World → Prop) : Prop := ∀ S S' w w', J S w → S'.job = S.job → KeepT tyK w w' → J S' w'
theorem jside_none : JSide JNone := fun S S' w w' h e _ => e.trans h
theorem jside_is (w0 : World) (n : Nat) (g : Int) (mk img : ByteArray) (m : List Bool) : JSide (JobIs w0 n g mk img m) := fun S S' w w' h e k => h.keep e k (by decide) (by decide)
theorem side_xt {kd left rd : Int} {yes : Value} {fs : List TFile} {J : CSt → World → Prop} (hJ : JSide J) : Side (Xt kd left rd yes fs J) := fun S S' w w' h e1 e2 e3 e4 e5 e6 k =>
  ⟨h.call.keep e1 k (by decide) (by decide), e3.trans h.left, e4.trans h.read, e5.trans h.yes, e6.trans h.ans, hJ _ _ _ _ h.job e2 k⟩
/-- types that a tick turns -/
def tyT : List TypeId := [78, 151, 30]
/-- a coordinator amid a tick that began at w -/
structure Tk (w0 w : World) (c kb mb n : Nat) (l : List Ent) (I : List (Int × List UInt8)) (X : CSt → World → Prop) (bkl : Nat) (PP : List Peer → Prop) (w1 : World) : Prop where
  ex : ∃ S ps Bk, Ld w0 c kb mb n l I ps S Bk w1 ∧ Bk.length ≤ bkl ∧ X S w1 ∧ PP ps
  keep : KeepT tyT w w1
  abv : Abv w0 w w1
theorem Tk.step {w0 w : World} {c kb mb n : Nat} {l : List Ent} {I : List (Int × List UInt8)} {X : CSt → World → Prop} {bkl : Nat} {PP : List Peer → Prop} {w1 w2 : World} (hX : Side X) (h : Tk w0 w c kb mb n l I X bkl PP w1) (k : Keep [30] w1 w2) (a : Abv w0 w1 w2) : Tk w0 w c kb mb n l I X bkl PP w2 := by
  obtain ⟨S, ps, Bk, h1, h2, h3, h4⟩ := h.ex
  exact ⟨⟨S, ps, Bk, h1.keep k (by decide) (by decide) (by decide), h2, hX _ _ _ _ h3 rfl rfl rfl rfl rfl rfl (k.1.mono (by decide)), h4⟩, h.keep.trans (k.1.mono (by decide)), h.abv.trans a⟩
theorem Tk.below {w0 w : World} {c kb mb n : Nat} {l : List Ent} {I : List (Int × List UInt8)} {X : CSt → World → Prop} {bkl : Nat} {PP : List Peer → Prop} {w1 w2 : World} (hX : Side X) (h : Tk w0 w c kb mb n l I X bkl PP w1) (b : Below w1.heap.size w1 w2) : Tk w0 w c kb mb n l I X bkl PP w2 := h.step hX (Keep.of_below b) (Abv.of_below b)
/-- what a tick's parts do, for a coordinator that leads and all of whose vaults stand alike -/
structure TkParts (w0 w : World) (c kb mb n : Nat) (S : CSt) (l : List Ent) (I2 : List (Int × List UInt8)) (X X' : CSt → World → Prop) (bk : Nat → Nat) (PP : Nat → List Peer → Prop) (LL : Nat → List MG → Prop) (LF : List MG → Prop) : Prop where
  sX : Side X
  sX' : Side X'
  next : ∀ w1, CoordAt w1 c { S with left := S.left - 1 } → Touch (fun k => k = c) w w1 → Calls Tryz.prog 37 #[.pointer (some ⟨c, 0, none⟩)] w1 fun e w2 => e = .returned (.tuple #[]) ∧ Tk w0 w c kb mb n l I2 X (bk 0) (PP 0) w2
  serve : ∀ v L w1, v < n → LL v L → Tk w0 w c kb mb n l I2 X (bk v) (PP v) w1 → Calls Tryz.prog 38 #[.pointer (some ⟨c, 0, none⟩), .int .i64 (v : Int)] w1 fun e w2 => ∃ sv l', e = .returned sv ∧ w2.ownsRow w1.heap.size 30 14 sv l'.length (msgsV l') ∧ Tk w0 w c kb mb n l I2 X (bk (v + 1)) (PP (v + 1)) w2 ∧ LL (v + 1) (L ++ l') ∧ KeepRows w1 w2
  asks : ∀ L w1, LL n L → Tk w0 w c kb mb n l I2 X (bk n) (PP n) w1 → Calls Tryz.prog 39 #[.pointer (some ⟨c, 0, none⟩)] w1 fun e w2 => ∃ sv l', e = .returned sv ∧ w2.ownsRow w1.heap.size 30 14 sv l'.length (msgsV l') ∧ Tk w0 w c kb mb n l I2 X' (bk n) (PP n) w2 ∧ LF (L ++ l') ∧ KeepRows w1 w2
  zero : LL 0 []
  small : ∀ v L, LL v L → v ≤ n → L.length ≤ 1000
  smallF : ∀ L, LF L → L.length ≤ 1000
set_option maxHeartbeats 2000000 in
theorem tk_any (w0 w : World) (c kb mb n kc : Nat) (S : CSt) (l : List Ent) (I2 : List (Int × List UInt8)) (X X' : CSt → World → Prop) (bk : Nat → Nat) (PP : Nat → List Peer → Prop) (LL : Nat → List MG → Prop) (LF : List MG → Prop) (P : TkParts w0 w c kb mb n S l I2 X X' bk PP LL LF)
    (hC : CoordAt w c S) (hn : S.n = (n : Int)) (hn1 : 1 ≤ n) (hn9 : n ≤ 9) (hph : S.phase = 2) (hcl : S.call = .pointer (some ⟨kc, 0, none⟩)) (hlf : 2 ≤ S.left ∧ S.left ≤ 1000) (hw : w0.heap.size ≤ w.heap.size) :
    Calls Tryz.prog 17 #[.pointer (some ⟨c, 0, none⟩)] w (TickSays (fun L w' => Tk w0 w c kb mb n l I2 X' (bk n) (PP n) w' ∧ LF L) w) := by
  have hgr : ∀ (w1 w2 : World) ov k xs, w1.ownsRow w.heap.size 30 14 ov k xs → w1.grownBy w2 ov.ownBlock → Keep [30] w1 w2 ∧ Abv w0 w1 w2 := fun w1 w2 ov k xs hr hg =>
    ⟨Keep.of_grown hr hg (by simp) (by decide), touch_grown (Touch.refl _ w1) hg (fun g hg' => Or.inl (Nat.le_trans hw (row_lt hr hg').1))⟩
  refine ctick_any c n kc S w (fun v L w1 => Tk w0 w c kb mb n l I2 X (bk v) (PP v) w1 ∧ LL v L ∧ v ≤ n) (fun L w1 => Tk w0 w c kb mb n l I2 X' (bk n) (PP n) w1 ∧ LF L) hC hn hn1 hn9 hph hcl hlf ⟨?_, ?_, ?_, ?_, ?_, ?_, ?_, ?_, ?_, ?_, ?_⟩
  · intro w1 h1 h2
    refine (P.next w1 h1 h2).mono ?_
    rintro e w2 ⟨rfl, h3⟩
    exact ⟨rfl, h3, P.zero, Nat.zero_le _⟩
  · intro v L w1 hv h
    refine (P.serve v L w1 hv h.2.1 h.1).mono ?_
    rintro e w2 ⟨sv, l', rfl, h1, h2, h3, h4⟩
    exact ⟨sv, l', rfl, h1, ⟨h2, h3, hv⟩, h4⟩
  · intro L w1 h
    refine (P.asks L w1 h.2.1 h.1).mono ?_
    rintro e w2 ⟨sv, l', rfl, h1, h2, h3, h4⟩
    exact ⟨sv, l', rfl, h1, ⟨h2, h3⟩, h4⟩
  · intro L w1 h
    obtain ⟨S1, ps, Bk, h1, _⟩ := h.1.ex
    exact fetches_none c S1 w1 h1.at_ h1.fetch
  · intro v L w1 w2 ov k xs h hr hg
    obtain ⟨a, b⟩ := hgr w1 w2 ov k xs hr hg
    exact ⟨h.1.step P.sX a b, h.2⟩
  · intro L w1 w2 ov k xs h hr hg
    obtain ⟨a, b⟩ := hgr w1 w2 ov k xs hr hg
    exact ⟨h.1.step P.sX' a b, h.2⟩
  · intro w1 h
    obtain ⟨S1, ps, Bk, h1, _⟩ := h.1.ex
    rw [← h1.n_]
    exact h1.at_.hd 1 (by omega)
  · intro v L w1 h
    exact P.small v L h.2.1 h.2.2
  · intro L w1 h
    exact P.smallF L h.2
  · intro v L w1 h
    exact h.1.abv.size
  · intro L w1 h
    exact h.1.abv.size
/-- a call's answer that sends nothing of new memory -/
theorem serveSays_tk {w0 w w1 w2 : World} {c kb mb n : Nat} {l : List Ent} {I : List (Int × List UInt8)} {X : CSt → World → Prop} {bkl : Nat} {PP : List Peer → Prop} {l' : List MG} {e : Ending} (hX : Side X) (h : Tk w0 w c kb mb n l I X bkl PP w1) (hs : ServeSays l' w1 e w2) :
    ∃ sv, e = .returned sv ∧ w2.ownsRow w1.heap.size 30 14 sv l'.length (msgsV l') ∧ Tk w0 w c kb mb n l I X bkl PP w2 ∧ KeepRows w1 w2 := by
  obtain ⟨sv, he, hr, hb⟩ := hs
  exact ⟨sv, he, hr, h.below hX hb, KeepRows.of_below hb⟩
/-- a vault that has all is sent nothing -/
theorem tk_none {w0 w w1 : World} {c kb mb n v : Nat} {l : List Ent} {I : List (Int × List UInt8)} {X : CSt → World → Prop} {bkl : Nat} {PP : List Peer → Prop} (hX : Side X) (h : Tk w0 w c kb mb n l I X bkl PP w1) (hv : v < n) (hn9 : n ≤ 9)
    (hP : ∀ ps, PP ps → ∀ i (hi : i < ps.length), i < n → ps[i].told = true ∧ ps[i].floor = 0 ∧ ps[i].top = (l.length : Int)) (hJ : ∀ S w', X S w' → S.job = .pointer none) :
    Calls Tryz.prog 38 #[.pointer (some ⟨c, 0, none⟩), .int .i64 (v : Int)] w1 fun e w2 => ∃ sv, e = .returned sv ∧ w2.ownsRow w1.heap.size 30 14 sv ([] : List MG).length (msgsV []) ∧ Tk w0 w c kb mb n l I X bkl PP w2 ∧ KeepRows w1 w2 := by
  obtain ⟨S, ps, Bk, h1, h2, h3, h4⟩ := h.ex
  have hvl : v < ps.length := by rw [h1.len]; omega
  obtain ⟨p1, p2, p3⟩ := hP ps h4 v hvl hv
  exact (serve_none c S ps v w1 h1.at_ h1.prs h1.len (by omega) p1 (by rw [h1.fl, p2]; exact Int.le_refl _) (by rw [h1.top, p3]; exact Int.le_refl _) (hJ S w1 h3)).mono (fun e w2 hs => serveSays_tk hX h hs)
/-- a vault that has the last generation is told that it is chosen -/
theorem tk_chosen {w0 w w1 : World} {c kb mb n v : Nat} {l : List Ent} {I : List (Int × List UInt8)} {X : CSt → World → Prop} {bkl : Nat} {PP : List Peer → Prop} {g : Nat} {mk : ByteArray} (hX : Side X) (h : Tk w0 w c kb mb n l I X bkl PP w1) (hv : v < n) (hn9 : n ≤ 9) (hl : l.length = g + 1) (hl5 : l.length ≤ 1000) (hm : mkF l (g : Int) = some mk)
    (hP : ∀ ps, PP ps → ∀ i (hi : i < ps.length), i < n → PGot (g : Int) mk ps[i]) :
    Calls Tryz.prog 38 #[.pointer (some ⟨c, 0, none⟩), .int .i64 (v : Int)] w1 fun e w2 => ∃ sv, e = .returned sv ∧ w2.ownsRow w1.heap.size 30 14 sv ([chosenM 1 (v : Int) (g : Int) mk] : List MG).length (msgsV [chosenM 1 (v : Int) (g : Int) mk]) ∧ Tk w0 w c kb mb n l I X bkl PP w2 ∧ KeepRows w1 w2 := by
  obtain ⟨S, ps, Bk, h1, h2, h3, h4⟩ := h.ex
  have hvl : v < ps.length := by rw [h1.len]; omega
  obtain ⟨p1, p2, p3, p4, p5, p6⟩ := hP ps h4 v hvl hv
  have hs := serve_chosen c w0.heap.size S ps l v mk w1 h1.at_ h1.prs h1.len (by omega) p1 (by rw [h1.fl, p2]; exact Int.le_refl _) (by rw [h1.top, p3]; omega) (by rw [h1.fl, p3]; omega) h1.cho (by omega) (by rw [p3]; exact hm) p6 (by rw [p5, p3])
  rw [h1.id_, p3] at hs
  exact hs.mono (fun e w2 hs => serveSays_tk hX h hs)
/-- a vault that has what is proposed is asked to accept it -/
theorem tk_accept {w0 w w1 : World} {c kb mb n v : Nat} {l : List Ent} {I : List (Int × List UInt8)} {X : CSt → World → Prop} {bkl : Nat} {PP : List Peer → Prop} {g : Nat} {mk img : ByteArray} {m : List Bool} (hX : Side X) (h : Tk w0 w c kb mb n l I X bkl PP w1) (hv : v < n) (hn9 : n ≤ 9) (hl : l.length = g)
    (hP : ∀ ps, PP ps → ∀ i (hi : i < ps.length), i < n → PGot (g : Int) mk ps[i]) (hJ : ∀ S w', X S w' → JobIs w0 n (g : Int) mk img m S w') (hm : m.getD v false = false) :
    Calls Tryz.prog 38 #[.pointer (some ⟨c, 0, none⟩), .int .i64 (v : Int)] w1 fun e w2 => ∃ sv, e = .returned sv ∧ w2.ownsRow w1.heap.size 30 14 sv ([acceptM 1 (v : Int) 17 (g : Int) mk] : List MG).length (msgsV [acceptM 1 (v : Int) 17 (g : Int) mk]) ∧ Tk w0 w c kb mb n l I X bkl PP w2 ∧ KeepRows w1 w2 := by
  obtain ⟨S, ps, Bk, h1, h2, h3, h4⟩ := h.ex
  have hvl : v < ps.length := by rw [h1.len]; omega
  obtain ⟨p1, p2, p3, p4, p5, p6⟩ := hP ps h4 v hvl hv
  obtain ⟨j, ta, tf, q1, q2, q3, q4⟩ := (hJ S w1 h3).ex
  have hs := serve_accept c j S ps n v (g : Int) 17 mk img ta tf true false m w1 h1.at_ h1.prs h1.len hv hn9 p1 (by rw [h1.fl, p2]; exact Int.le_refl _) (by rw [h1.top, p3, hl]; exact Int.le_refl _) q1 q2 q3 hm p6 p5
  rw [h1.id_, h1.bal] at hs
  exact hs.mono (fun e w2 hs => serveSays_tk hX h hs)
/-- a vault that is as far is sent the parts of what is proposed -/
theorem tk_parts {w0 w w1 : World} {c kb mb n v : Nat} {l : List Ent} {I : List (Int × List UInt8)} {T : List UInt8} {X : CSt → World → Prop} {bkl : Nat} {g : Nat} {mk img : ByteArray} {m : List Bool} {L : List MG} (hX : Side X) (h : Tk w0 w c kb mb n l (I ++ [((g : Int), T)]) X bkl (Mix n (fun i => i < v) (PPart (g : Int)) (PFar (g : Int))) w1) (hv : v < n) (hn9 : n ≤ 9) (hl : l.length = g) (hI : ImgOk I g) (hg : g ≤ 5) (hT : T.length ≤ 30000) (hbk : bkl ≤ 500000000) (hmk : mk.size = 32)
    (hJ : ∀ S w', X S w' → JobIs w0 n (g : Int) mk img m S w') (hm : m.getD v false = false) (hL : PartsOk (g : Int) mk v L) (hc0 : w0.heap.size ≤ c) (hmb : w0.heap.size ≤ mb) :
    Calls Tryz.prog 38 #[.pointer (some ⟨c, 0, none⟩), .int .i64 (v : Int)] w1 fun e w2 => ∃ sv l', e = .returned sv ∧ w2.ownsRow w1.heap.size 30 14 sv l'.length (msgsV l') ∧ Tk w0 w c kb mb n l (I ++ [((g : Int), T)]) X (bkl + 120020) (Mix n (fun i => i < v + 1) (PPart (g : Int)) (PFar (g : Int))) w2 ∧ PartsOk (g : Int) mk (v + 1) (L ++ l') ∧ KeepRows w1 w2 := by
  obtain ⟨S, ps, Bk, h1, h2, h3, h4⟩ := h.ex
  have hvl : v < ps.length := by rw [h1.len]; omega
  obtain ⟨p1, p2, p3, p4, p5, p6⟩ := (h4 v hvl hv).2 (by omega)
  obtain ⟨j, ta, tf, q1, q2, q3, q4⟩ := (hJ S w1 h3).ex
  have hs := serve_parts c w0.heap.size kb mb j n v S ps (I ++ [((g : Int), T)]) Bk (g : Int) 17 mk img T ta tf true false m w1 h1.at_ h1.prs h1.len hv hn9 h1.bk_ p1 p4 p5 (by rw [h1.fl, p2]; exact Int.le_refl _) (by rw [h1.top, p3, hl]; exact Int.le_refl _) q1 q2 q3 hm
    (by
      rcases p6 with e | e
      · exact Or.inr e
      · exact Or.inl (fun e2 => e (by rw [e2]; exact hmk))) h1.img (by rw [List.length_append, hI.1, List.length_singleton]; omega) (fun x hx => by
      rcases List.mem_append.1 hx with hx | hx
      · exact hI.small x hx
      · obtain rfl := List.mem_singleton.1 hx; exact hT) hT (hI.top T) h1.bok (by omega)
  refine hs.mono ?_
  rintro e w2 ⟨x, bas, s, pk, Bk', rfl, ⟨hs1, hs2⟩, hr, hC, hK, hB, hTt⟩
  rw [h1.id_, h1.bal] at hr
  rw [h1.fl] at hs2
  obtain ⟨hb0, hb1⟩ := hs2 (Int.le_refl _) (by omega)
  have hkt : KeepT [78] w1 w2 := KeepT.of_touch hTt (fun q _ hq => by
    rcases hq with rfl | rfl
    · exact Or.inl (Tyd.blk h1.at_.1 (by simp))
    · exact Or.inr ⟨kb, Bk, h1.bok⟩)
  have hab : Abv w0 w1 w2 := Abv.of_touch hTt (fun q _ hq => by rcases hq with rfl | rfl <;> omega)
  refine ⟨x, _, rfl, by rw [partsL_length]; exact hr, ⟨⟨_, _, Bk', ⟨hC, h1.id_, h1.n_, h1.bk_, h1.bal, h1.ph, h1.fl, h1.top, h1.again, h1.fetch, rfl, by rw [List.length_set]; exact h1.len, hkt.2 _ _ _ _ _ _ (by decide) h1.cho, hkt.2 _ _ _ _ _ _ (by decide) h1.img, hK⟩, by omega, hX _ _ _ _ h3 rfl rfl rfl rfl rfl rfl (hkt.mono (by decide)), ?_⟩, h.keep.trans (hkt.mono (by decide)), h.abv.trans hab⟩, hL.snoc bas s hs1 hb0 hb1, fun B ov k xs hr => hkt.2 _ _ _ _ _ _ (by decide) hr⟩
  exact h4.set v _ (fun i hi => by constructor <;> intro h <;> omega) ⟨fun _ => ⟨p1, p2, p3, p4⟩, fun h => absurd (Nat.lt_succ_self v) h⟩
end Go.Proofs.YtaemlplcjjbamaaGreatDoor
