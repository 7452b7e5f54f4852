/- What may be a name, a path, a tree: plain, as the program te -/
import Derived.Test.YtaemlplcjjbamaaGreatDoorBShelf
namespace Go.Proofs.YtaemlplcjjbamaaGreatDoor
open Go.Lib (hid)
set_option maxRecDepth 100000
set_option maxHeartbeats 8000000
open Go Go.RowKit
set_option linter.unusedVariables false
variable {ad : Option Addr} {base i k : Nat} {e : TypeId} {s : ByteArray} {w w' : World}
def okNB (b : UInt8) : Bool := decide (33 ≤ b.toNat ∧ b.toNat ≤ 126)
def nameL (s : List UInt8) : Bool := decide (s ≠ [] ∧ s ≠ [46] ∧ s ≠ [46, 46] ∧ s.length ≤ 32) && s.all okNB
def pieces : List UInt8 → List (List UInt8)
 | [] => [[]]
 | c :: r => if c = 47 then [] :: pieces r else match pieces r with | [] => [[c]] | p :: ps => (c :: p) :: ps
theorem zDm : ∀ (a : List UInt8), (∀ b ∈ a, b ≠ 47) → pieces a = [a]
 | [], _ => rfl
 | c :: r, h => by
  unfold pieces
  rw [if_neg (h c (List.mem_cons.2 (Or.inl rfl))), zDm r (fun b hb => h b (List.mem_cons.2 (Or.inr hb)))]
theorem zDU : ∀ (a r : List UInt8), (∀ b ∈ a, b ≠ 47) → pieces (a ++ 47 :: r) = a :: pieces r
 | [], r, _ => by
  show pieces (47 :: r) = _
  conv => lhs; unfold pieces
  rw [if_pos rfl]
 | c :: a, r, h => by
  show pieces (c :: (a ++ 47 :: r)) = _
  conv => lhs; unfold pieces
  rw [if_neg (h c (List.mem_cons.2 (Or.inl rfl))), zDU a r (fun b hb => h b (List.mem_cons.2 (Or.inr hb)))]
theorem zEH : ∀ (s : List UInt8), (Lib.index s [47] = -1 ∧ ∀ b ∈ s, b ≠ 47) ∨ ∃ (i : Nat), Lib.index s [47] = i ∧ ∃ r, s = s.take i ++ 47 :: r ∧ r = s.drop (i + 1) ∧ ∀ b ∈ s.take i, b ≠ 47
 | [] => Or.inl ⟨rfl, fun b hb => by cases hb⟩
 | c :: l => by
  by_cases hc : c = 47
  ·subst hc
   right
   refine ⟨0, ?_, l, rfl, rfl, fun b hb => by cases hb⟩
   rw [Lib.index]
   simp [List.isPrefixOf]
  ·have hp : ([47] : List UInt8).isPrefixOf (c :: l) = false := by simp [List.isPrefixOf, Ne.symm hc]
   have hix : Lib.index (c :: l) [47] = if Lib.index l [47] == -1 then -1 else Lib.index l [47] + 1 := by rw [Lib.index, hp]; simp
   rcases zEH l with ⟨h1, h2⟩ | ⟨i, h1, r, h2, h3, h4⟩
   ·left
    refine ⟨by rw [hix, h1]; rfl, fun b hb => ?_⟩
    rcases List.mem_cons.1 hb with rfl | hb
    ·exact hc
    ·exact h2 b hb
   ·right
    refine ⟨i + 1, ?_, r, ?_, h3, fun b hb => ?_⟩
    ·rw [hix, h1, if_neg (by rw [beq_iff_eq]; omega)]
     omega
    ·rw [List.take_succ_cons, List.cons_append, ← h2]
    ·rw [List.take_succ_cons] at hb
     rcases List.mem_cons.1 hb with rfl | hb
     ·exact hc
     ·exact h4 b hb
theorem zDH : ∀ (k : Nat) (s : List UInt8), s.count 47 = k → Lib.splitK [47] 0 k s = pieces s
 | 0, s, h => by
  have hn : ∀ b ∈ s, b ≠ 47 := fun b hb e => by
   subst e
   have := List.count_pos_iff.2 hb
   omega
  rw [zDm s hn]
  rfl
 | k + 1, s, h => by
  rcases zEH s with ⟨h1, h2⟩ | ⟨i, h1, r, h2, h3, h4⟩
  ·exfalso
   have : s.count 47 = 0 := List.count_eq_zero.2 (fun hm => h2 47 hm rfl)
   omega
  ·unfold Lib.splitK
   rw [h1, if_neg (by rw [beq_iff_eq]; omega)]
   show s.take (((i : Nat) : Int).toNat + 0) :: Lib.splitK [47] 0 k (s.drop (((i : Nat) : Int).toNat + 1)) = _
   rw [Int.toNat_natCast, Nat.add_zero, ← h3]
   have hc : r.count 47 = k := by
    have e := congrArg (List.count 47) h2
    rw [List.count_append, List.count_cons_self] at e
    have : (s.take i).count 47 = 0 := List.count_eq_zero.2 (fun hm => h4 47 hm rfl)
    omega
   rw [zDH k r hc]
   conv => rhs; rw [h2]
   rw [zDU _ _ h4]
theorem zHa (s : ByteArray) : (Lib.splitB ⟨#[47]⟩ 0 (Lib.countB s ⟨#[47]⟩) s).map (·.data.toList) = pieces s.data.toList := by
 rw [Lib.splitB_data]
 have e : Lib.countB s ⟨#[47]⟩ = s.data.toList.count 47 := Lib.count_one 47 s.data.toList
 rw [e]
 exact zDH _ _ rfl
def pathE (s : ByteArray) : Int := if 200 < s.size then 4 else if (pieces s.data.toList).all nameL = true then 0 else 10
def ordZ : List UInt8 → List UInt8 → Int
 | x :: a, y :: b => if x = y then ordZ a b else if x = 47 then -1 else if y = 47 then 1 else (x.toNat : Int) - (y.toNat : Int)
 | a, b => (a.length : Int) - (b.length : Int)
theorem ordZ_nil (b : List UInt8) : ordZ [] b = -(b.length : Int) := by
 unfold ordZ
 simp
theorem zIn (a : List UInt8) : ordZ a [] = (a.length : Int) := by
 cases a <;> unfold ordZ <;> simp
theorem zIs (x y : UInt8) (a b : List UInt8) : ordZ (x :: a) (y :: b) = if x = y then ordZ a b else if x = 47 then -1 else if y = 47 then 1 else (x.toNat : Int) - (y.toNat : Int) := by
 conv => lhs; unfold ordZ
def keyB (b : UInt8) : Int := if b = 47 then 0 else (b.toNat : Int) + 1
def ordR : List UInt8 → List UInt8 → Int
 | [], [] => 0
 | [], _ :: _ => -1
 | _ :: _, [] => 1
 | x :: a, y :: b => if keyB x < keyB y then -1 else if keyB y < keyB x then 1 else ordR a b
theorem zCQ {x y : UInt8} (h : x ≠ y) : (x.toNat : Int) ≠ (y.toNat : Int) := fun e => h (UInt8.toNat_inj.1 (by omega))
theorem zGI : ∀ (a b : List UInt8), (ordR b a < 0 ↔ 0 < ordZ a b) ∧ (ordZ a b = 0 ↔ a = b)
 | [], [] => by decide
 | [], y :: b => by
  rw [ordZ_nil]
  refine ⟨⟨fun h => ?_, fun h => ?_⟩, ⟨fun h => ?_, fun h => by cases h⟩⟩
  ·unfold ordR at h; omega
  ·simp at h; omega
  ·simp at h; omega
 | x :: a, [] => by
  rw [zIn]
  refine ⟨⟨fun h => by simp, fun h => ?_⟩, ⟨fun h => ?_, fun h => by cases h⟩⟩
  ·unfold ordR; omega
  ·simp at h; omega
 | x :: a, y :: b => by
  obtain ⟨h1, h2⟩ := zGI a b
  have hx := x.toNat_lt
  have hy := y.toNat_lt
  have hk : ordR (y :: b) (x :: a) = if keyB y < keyB x then -1 else if keyB x < keyB y then 1 else ordR b a := by
   conv => lhs; unfold ordR
  rw [zIs, hk]
  by_cases hxy : x = y
  ·subst hxy
   rw [if_neg (by omega), if_neg (by omega), if_pos rfl]
   exact ⟨h1, by rw [h2]; simp⟩
  ·have hne := zCQ hxy
   rw [if_neg hxy]
   have hf : ¬ (x :: a = y :: b) := fun e => hxy (by injection e)
   have e47 : (47 : UInt8).toNat = 47 := rfl
   unfold keyB
   by_cases hx47 : x = 47
   ·have hy47 : ¬ y = 47 := fun e => hxy (hx47.trans e.symm)
    rw [if_pos hx47, if_pos hx47, if_neg hy47]
    rw [if_neg (by omega), if_pos (by omega)]
    exact ⟨by omega, by constructor <;> intro h <;> first | omega | exact absurd h hf⟩
   ·rw [if_neg hx47, if_neg hx47]
    by_cases hy47 : y = 47
    ·rw [if_pos hy47, if_pos hy47, if_pos (by omega)]
     exact ⟨by omega, by constructor <;> intro h <;> first | omega | exact absurd h hf⟩
    ·rw [if_neg hy47, if_neg hy47]
     by_cases hlt : (y.toNat : Int) < x.toNat
     ·rw [if_pos (by omega)]
      exact ⟨by omega, by constructor <;> intro h <;> first | omega | exact absurd h hf⟩
     ·rw [if_neg (by omega), if_pos (by omega)]
      exact ⟨by omega, by constructor <;> intro h <;> first | omega | exact absurd h hf⟩
def zAR (s p : ByteArray) : Bool := decide (p.data.toList ++ [47] <+: s.data.toList)
structure TFile where
 path : ByteArray
 mode : Int
 data : ByteArray
def zAC : Option ByteArray → List ByteArray → Int
 | _, [] => 0
 | none, s :: r => if pathE s ≠ 0 then pathE s else zAC (some s) r
 | some p, s :: r => if pathE s ≠ 0 then pathE s else if 0 < ordZ p.data.toList s.data.toList then 12 else if p = s ∨ zAR s p = true then 9 else zAC (some s) r
def zAP (l : List ByteArray) : Int := if 256 < l.length then 7 else zAC none l
def zCy : List TFile → Int
 | [] => 0
 | f :: r => if f.mode < 0 ∨ 511 < f.mode then 11 else if 65536 < f.data.size then 4 else zCy r
def zAy (l : List TFile) : Int := if zAP (l.map TFile.path) ≠ 0 then zAP (l.map TFile.path) else zCy l
def zBr (l : List ByteArray) (i : Nat) : Option ByteArray := if i = 0 then none else l[i - 1]?
theorem zDh {l : List ByteArray} (h : i < l.length) : zBr l (i + 1) = some l[i] := by
 unfold zBr
 rw [if_neg (by omega), Nat.add_sub_cancel, List.getElem?_eq_getElem h]
theorem zHq {l : List ByteArray} (h : ¬ i < l.length) : zAC (zBr l i) (l.drop i) = 0 := by
 rw [List.drop_eq_nil_of_le (by omega)]
 unfold zAC
 rfl
theorem zGR {l : List ByteArray} (h : i < l.length) (he : pathE l[i] ≠ 0) : zAC (zBr l i) (l.drop i) = pathE l[i] := by
 rw [List.drop_eq_getElem_cons h]
 cases zBr l i with
 | none => unfold zAC; rw [if_pos he]
 | some p => unfold zAC; rw [if_pos he]
theorem zEM {l : List ByteArray} (h : 0 < l.length) (he : pathE l[0] = 0) : zAC (zBr l 0) (l.drop 0) = zAC (zBr l 1) (l.drop 1) := by
 rw [List.drop_eq_getElem_cons h, zDh h]
 have e : zBr l 0 = none := rfl
 rw [e]
 conv => lhs; unfold zAC
 rw [if_neg (fun hh => hh he)]
theorem zFP {l : List ByteArray} (h : i + 1 < l.length) (he : pathE l[i + 1] = 0) :
  zAC (zBr l (i + 1)) (l.drop (i + 1)) = if 0 < ordZ l[i].data.toList l[i + 1].data.toList then 12 else if l[i] = l[i + 1] ∨ zAR l[i + 1] l[i] = true then 9 else zAC (zBr l (i + 2)) (l.drop (i + 2)) := by
 rw [List.drop_eq_getElem_cons h, zDh h, zDh (show i < l.length by omega)]
 conv => lhs; unfold zAC
 rw [if_neg (fun hh => hh he)]
theorem zFU {l : List TFile} (h : i < l.length) : zCy (l.drop i) = if l[i].mode < 0 ∨ 511 < l[i].mode then 11 else if 65536 < l[i].data.size then 4 else zCy (l.drop (i + 1)) := by
 rw [List.drop_eq_getElem_cons h]
 conv => lhs; unfold zCy
theorem zHK {l : List TFile} (h : ¬ i < l.length) : zCy (l.drop i) = 0 := by
 rw [List.drop_eq_nil_of_le (by omega)]
 rfl
def tfV (x : TFile) : List Value := [.string x.path, .int .i64 x.mode, .string x.data]
def zAq (l : List TFile) : List Value := l.flatMap tfV
theorem zBW : ∀ (l : List TFile), (zAq l).length = l.length * 3
 | [] => rfl
 | x :: l => by
  have := zBW l
  show (tfV x ++ zAq l).length = _
  rw [List.length_append, this, List.length_cons]
  show 3 + _ = _
  omega
theorem zHj (l : List TFile) (x : TFile) : zAq (l ++ [x]) = zAq l ++ tfV x := by simp [zAq]
theorem zFs (l r : List TFile) : zAq (l ++ r) = zAq l ++ zAq r := by simp [zAq]
theorem zCP : ∀ (l : List TFile) (k : Nat) (hk : k < l.length) (j : Nat), j < 3 → (zAq l)[k * 3 + j]? = (tfV l[k])[j]?
 | [], k, hk, _, _ => by simp at hk
 | x :: l, k, hk, j, hj => by
  have e : zAq (x :: l) = tfV x ++ zAq l := rfl
  have hl : (tfV x).length = 3 := rfl
  rw [e]
  cases k with
  | zero => rw [List.getElem?_append_left (by omega)]; simp
  | succ k =>
   rw [List.getElem?_append_right (by omega), hl, show (k + 1) * 3 + j - 3 = k * 3 + j by omega]
   exact zCP l k (by simpa using hk) j hj
def TfsAt (w : World) (ad : Option Addr) (l : List TFile) : Prop :=
 l = [] ∨ ∃ b off, ad = some ⟨b, off, none⟩ ∧ b < w.heap.size ∧ ∀ k (hk : k < l.length), w.cell? ⟨b, off + k * 3, none⟩ = some (.string l[k].path) ∧ w.cell? ⟨b, off + k * 3 + 1, none⟩ = some (.int .i64 l[k].mode) ∧ w.cell? ⟨b, off + k * 3 + 2, none⟩ = some (.string l[k].data)
theorem TfsAt.below {l : List TFile} (h : TfsAt w ad l) (hb : Below w.heap.size w w') : TfsAt w' ad l := by
 rcases h with h | ⟨b, off, h1, h2, h3⟩
 ·exact Or.inl h
 ·refine Or.inr ⟨b, off, h1, Nat.lt_of_lt_of_le h2 hb.size, fun k hk => ?_⟩
  rw [hb.cell (p := ⟨b, off + k * 3, none⟩) h2, hb.cell (p := ⟨b, off + k * 3 + 1, none⟩) h2, hb.cell (p := ⟨b, off + k * 3 + 2, none⟩) h2]
  exact h3 k hk
theorem TfsAt.get {l : List TFile} (h : TfsAt w ad l) (k : Nat) (hk : k < l.length) :
  ∃ b off, ad = some ⟨b, off, none⟩ ∧ b < w.heap.size ∧ w.cell? ⟨b, off + k * 3, none⟩ = some (.string l[k].path) ∧ w.cell? ⟨b, off + k * 3 + 1, none⟩ = some (.int .i64 l[k].mode) ∧ w.cell? ⟨b, off + k * 3 + 2, none⟩ = some (.string l[k].data) := by
 obtain ⟨b, off, e, hb, hc⟩ := h.resolve_left (by intro h; rw [h] at hk; simp at hk)
 exact ⟨b, off, e, hb, hc k hk⟩
theorem zDs {x : Option Addr} {y : Nat} {l : List TFile} (h : w.ownsRow base e 3 (.slice x l.length y) l.length (zAq l)) : TfsAt w x l := by
 by_cases h0 : l.length = 0
 ·exact Or.inl (List.length_eq_zero_iff.1 h0)
 ·obtain ⟨g, cap, hv, _, hg, _, _, hc⟩ := zAz h (by omega)
  injection hv with hv _ _
  subst hv
  refine Or.inr ⟨g, 0, rfl, hg, fun k hk => ?_⟩
  refine ⟨?_, ?_, ?_⟩
  ·rw [Nat.zero_add, hc _ (by omega)]; exact zCP l k hk 0 (by omega)
  ·rw [Nat.zero_add, hc _ (by omega)]; exact zCP l k hk 1 (by omega)
  ·rw [Nat.zero_add, hc _ (by omega)]; exact zCP l k hk 2 (by omega)
def fewF (f : TFile) : TFile := if 2000 < f.data.size then { f with data := f.data.extract 0 2000 } else f
def fewL (l : List TFile) : List TFile := (l.take 8).map fewF
theorem strq_eq (a b : ByteArray) : (a.toList == b.toList) = decide (a = b) := by
 rw [Bool.eq_iff_iff, decide_eq_true_iff, beq_iff_eq]
 constructor
 ·intro h
  rw [ByteArray.toList_eq, ByteArray.toList_eq] at h
  cases a; cases b
  simp at h
  rw [h]
 ·rintro rfl; rfl
theorem zIJ {a b : ByteArray} (h : a ≠ b) : (a.toList == b.toList) = false := by rw [strq_eq, decide_eq_false h]
theorem zBN {l : List UInt8} (h : s ≠ ⟨l.toArray⟩) : ¬ s.toList = l := by
 intro e
 rw [ByteArray.toList_eq] at e
 apply h
 cases s
 simp at e
 rw [← e]
theorem zCL {l : List UInt8} (h : s ≠ ⟨l.toArray⟩) : (s.toList == l) = false := beq_eq_false_iff_ne.2 (zBN h)
theorem zDG (h : s ≠ ⟨#[]⟩) : s.toList.isEmpty = false := by
 have := zBN (l := []) h
 cases hs : s.toList with
 | nil => exact absurd hs this
 | cons a b => rfl
theorem zEC {a b : ByteArray} (h : a = b) : (a.toList == b.toList) = true := by rw [strq_eq, decide_eq_true h]
theorem zGT (h : ¬ (s ≠ ⟨#[]⟩ ∧ s ≠ ⟨#[46]⟩ ∧ s ≠ ⟨#[46, 46]⟩ ∧ s.size ≤ 32)) : nameL s.data.toList = false := by
 unfold nameL
 have e : decide (s.data.toList ≠ [] ∧ s.data.toList ≠ [46] ∧ s.data.toList ≠ [46, 46] ∧ s.data.toList.length ≤ 32) = false := by
  rw [decide_eq_false_iff_not]
  rintro ⟨h1, h2, h3, h4⟩
  refine h ⟨?_, ?_, ?_, by simpa using h4⟩
  ·rintro rfl; exact h1 rfl
  ·rintro rfl; exact h2 rfl
  ·rintro rfl; exact h3 rfl
 rw [e, Bool.false_and]
theorem zHy (h : s ≠ ⟨#[]⟩ ∧ s ≠ ⟨#[46]⟩ ∧ s ≠ ⟨#[46, 46]⟩ ∧ s.size ≤ 32) : nameL s.data.toList = s.data.toList.all okNB := by
 unfold nameL
 obtain ⟨h1, h2, h3, h4⟩ := h
 have hx : ∀ (l : List UInt8), s.data.toList = l → s = ⟨l.toArray⟩ := by
  intro l hl
  cases s
  simp at hl
  rw [← hl]
 have e : decide (s.data.toList ≠ [] ∧ s.data.toList ≠ [46] ∧ s.data.toList ≠ [46, 46] ∧ s.data.toList.length ≤ 32) = true := by
  rw [decide_eq_true_iff]
  exact ⟨fun e => h1 (hx _ e), fun e => h2 (hx _ e), fun e => h3 (hx _ e), by simpa using h4⟩
 rw [e, Bool.true_and]
theorem zHL (hi : i < s.size) (h : (s.data.toList.take i).all okNB = true) (hb : okNB s[i] = true) : (s.data.toList.take (i + 1)).all okNB = true := by
 rw [zHv s i hi, List.all_append, h]
 simpa using hb
theorem zGw (hi : i < s.size) (hb : okNB s[i] = false) : s.data.toList.all okNB = false := by
 rw [List.all_eq_false]
 exact ⟨s[i], by
  have : s[i] = s.data.toList[i]'(by simpa using hi) := rfl
  rw [this]; exact List.getElem_mem _, by rw [hb]; simp⟩
theorem name_any (s : ByteArray) (w : World) :
  Calls Tryz.prog 138 #[.string s] w fun e w' => e = .returned (.bool (nameL s.data.toList)) ∧ Below w.heap.size w w' := by
 by_cases h : s ≠ ⟨#[]⟩ ∧ s ≠ ⟨#[46]⟩ ∧ s ≠ ⟨#[46, 46]⟩ ∧ s.size ≤ 32
 ·have hn := zHy h
  obtain ⟨h1, h2, h3, h4⟩ := h
  have q1 := zDG h1
  have q2 := zCL (l := [46]) h2
  have q3 := zCL (l := [46, 46]) h3
  have n1 := zBN (l := []) h1
  have n2 := zBN (l := [46]) h2
  have n3 := zBN (l := [46, 46]) h3
  have Hn := hid hn
  clear h1 h2 h3 hn
  go_enter Tryz.func138, Tryz.ntmps138
  go_wp2
  go_loopw [4] (fun _ wr => ∃ pos : Nat, pos ≤ s.size ∧ wr = w.iter s pos ∧ Hid ((s.data.toList.take pos).all okNB = true)) (fun _ wr => s.size - wr.iterPos w.heap.size)
  case atStart => exact ⟨0, Nat.zero_le _, rfl, hid rfl⟩
  case round =>
   obtain ⟨pos, hps, rfl, Hok⟩ := hrel
   have hbw := (Below.refl w.heap.size w).alloc (Nat.le_refl _)
   by_cases hlt : pos < s.size
   ·by_cases ha : (s[pos]'hlt).toNat < 128
    ·have hnx := fun ty => run_next_ascii (P := Tryz.prog) w s pos ty hlt ha
     by_cases hok : okNB (s[pos]'hlt) = true
     ·have hk := hid (zHL hlt Hok.out hok)
      have hok2 : 33 ≤ (s[pos]'hlt).toNat ∧ (s[pos]'hlt).toNat ≤ 126 := by simpa [okNB] using hok
      obtain ⟨hk1, hk2⟩ := hok2
      clear hok
      generalize (s[pos]'hlt).toNat = x at ha hnx hk1 hk2
      go_wp2
      go_roundw
      case rel => exact ⟨pos + 1, hlt, rfl, hk⟩
      case measure => rw [World.iterPos_iter, World.iterPos_iter]; omega
     ·have hbad := hid (zGw hlt (by simpa using hok))
      have hok2 : (s[pos]'hlt).toNat < 33 ∨ (126 < (s[pos]'hlt).toNat ∧ 33 ≤ (s[pos]'hlt).toNat) := by
       have : ¬ (33 ≤ (s[pos]'hlt).toNat ∧ (s[pos]'hlt).toNat ≤ 126) := by simpa [okNB] using hok
       omega
      clear hok
      generalize (s[pos]'hlt).toNat = x at ha hnx hok2
      rcases hok2 with h5 | ⟨h5, h6⟩
      all_goals
       go_wp2
       go_ret
       rw [Hn.out, hbad.out]
       exact ⟨rfl, hbw _⟩
    ·have hnx := fun ty => run_next_any (P := Tryz.prog) w s pos ty hlt
     obtain ⟨hd1, hd2⟩ := decode_high s pos hlt (by omega)
     have hd3 := decode_le s pos
     have hbad := hid (zGw hlt (by simp [okNB]; omega))
     generalize (Utf8.decode s pos).1 = x at hnx hd1 hd3
     generalize (Utf8.decode s pos).2 = y at hnx hd2
     go_wp2
     go_ret
     rw [Hn.out, hbad.out]
     exact ⟨rfl, hbw _⟩
   ·have hnx := fun ty => run_next_end (P := Tryz.prog) w s pos ty hlt
    have hall := hid (show s.data.toList.all okNB = true by
     have h := Hok.out
     rw [List.take_of_length_le (by simp; omega)] at h
     exact h)
    go_wp2
    go_ret
    rw [Hn.out, hall.out]
    exact ⟨rfl, hbw _⟩
 ·rw [zGT h]
  by_cases h1 : s = ⟨#[]⟩
  ·subst h1
   clear h
   go_enter Tryz.func138, Tryz.ntmps138
   go_wp2
   go_ret
   exact ⟨rfl, Below.refl _ _⟩
  by_cases h2 : s = ⟨#[46]⟩
  ·subst h2
   clear h
   go_enter Tryz.func138, Tryz.ntmps138
   go_wp2
   go_ret
   exact ⟨rfl, Below.refl _ _⟩
  by_cases h3 : s = ⟨#[46, 46]⟩
  ·subst h3
   clear h
   go_enter Tryz.func138, Tryz.ntmps138
   go_wp2
   go_ret
   exact ⟨rfl, Below.refl _ _⟩
  have h4 : 32 < s.size := by
   rcases Nat.lt_or_ge 32 s.size with h' | h'
   ·exact h'
   ·exact absurd ⟨h1, h2, h3, h'⟩ h
  have q1 := zDG h1
  have q2 := zCL (l := [46]) h2
  have q3 := zCL (l := [46, 46]) h3
  have n1 := zBN (l := []) h1
  have n2 := zBN (l := [46]) h2
  have n3 := zBN (l := [46, 46]) h3
  clear h h1 h2 h3
  go_enter Tryz.func138, Tryz.ntmps138
  go_wp2
  go_ret
  exact ⟨rfl, Below.refl _ _⟩
theorem zBZ (s : ByteArray) (k : Nat) (h : k < s.size) : s.data.toList.drop k = s[k] :: s.data.toList.drop (k + 1) := by
 rw [List.drop_eq_getElem_cons (by simpa using h)]; rfl
theorem order_any (a b : ByteArray) (w : World) (ha : a.size ≤ 9223372036854775807) (hb : b.size ≤ 9223372036854775807) :
  Calls Tryz.prog 118 #[.string a, .string b] w fun e w' => e = .returned (.int .i64 (ordZ a.data.toList b.data.toList)) ∧ ∃ n, w' = w.drewN n := by
 obtain ⟨m, hm, hm1, hm2, hm3⟩ : ∃ m : Nat, min (a.size : Int) (b.size : Int) = (m : Int) ∧ m ≤ a.size ∧ m ≤ b.size ∧ (m = a.size ∨ m = b.size) := ⟨min a.size b.size, by omega, by omega, by omega, by omega⟩
 have hend0 : ordZ (a.data.toList.drop m) (b.data.toList.drop m) = (a.size : Int) - (b.size : Int) := by
  rcases hm3 with h | h
  ·rw [List.drop_of_length_le (l := a.data.toList) (by simp; omega), ordZ_nil, List.length_drop, show b.data.toList.length = b.size by simp]
   omega
  ·rw [List.drop_of_length_le (l := b.data.toList) (by simp; omega), zIn, List.length_drop, show a.data.toList.length = a.size by simp]
   omega
 have hend := hid hend0
 clear hm3 hend0
 go_enter Tryz.func118, Tryz.ntmps118
 go_wp2
 go_loopw [5, 6, 7, 13] (fun _ _ _ i wr => ∃ k : Nat, (∃ n, wr = w.drewN n) ∧ i = .int .i64 k ∧ k ≤ m ∧ Hid (ordZ a.data.toList b.data.toList = ordZ (a.data.toList.drop k) (b.data.toList.drop k))) (fun _ _ _ i _ => m - (intOf i).toNat)
 case atStart => exact ⟨0, ⟨0, rfl⟩, rfl, Nat.zero_le _, hid rfl⟩
 case round =>
  obtain ⟨k, ⟨n, rfl⟩, rfl, hk, Hz⟩ := hrel
  by_cases hlt : k < m
  ·have hka : k < a.size := by omega
   have hkb : k < b.size := by omega
   have hz := hid (show ordZ a.data.toList b.data.toList = _ by rw [Hz.out, zBZ a k hka, zBZ b k hkb, zIs])
   have ba := (a[k]'hka).toNat_lt
   have bb := (b[k]'hkb).toNat_lt
   have ka : (k : Int) < (a.size : Int) := by omega
   have kb : (k : Int) < (b.size : Int) := by omega
   by_cases hxy : (a[k]'hka) = (b[k]'hkb)
   ·have hz2 := hid (show ordZ a.data.toList b.data.toList = ordZ (a.data.toList.drop (k + 1)) (b.data.toList.drop (k + 1)) by rw [hz.out, if_pos hxy])
    have e1 : (((a[k]'hka).toNat : Int) == ((b[k]'hkb).toNat : Int)) = true := by rw [hxy]; simp
    clear hz hxy
    go_wp2
    go_quiet (fail)
    go_wp2
    go_roundw
    case rel => exact ⟨k + 1, ⟨_, rfl⟩, by go_num, by omega, hz2⟩
    case measure => simp [intOf]; omega
   ·have e1 : (((a[k]'hka).toNat : Int) == ((b[k]'hkb).toNat : Int)) = false := beq_eq_false_iff_ne.2 (zCQ hxy)
    by_cases hx47 : (a[k]'hka) = 47
    ·have hz2 := hid (show ordZ a.data.toList b.data.toList = -1 by rw [hz.out, if_neg hxy, if_pos hx47])
     have e2 : (((a[k]'hka).toNat : Int) == 47) = true := by rw [hx47]; rfl
     clear hz hxy hx47
     go_wp2
     go_quiet (fail)
     go_wp2
     go_ret
     exact ⟨zAk hz2.out.symm, _, rfl⟩
    ·have e2 : (((a[k]'hka).toNat : Int) == 47) = false := beq_eq_false_iff_ne.2 (fun e => zCQ hx47 e)
     by_cases hy47 : (b[k]'hkb) = 47
     ·have hz2 := hid (show ordZ a.data.toList b.data.toList = 1 by rw [hz.out, if_neg hxy, if_neg hx47, if_pos hy47])
      have e3 : (((b[k]'hkb).toNat : Int) == 47) = true := by rw [hy47]; rfl
      clear hz hxy hx47 hy47
      go_wp2
      go_quiet (fail)
      go_wp2
      go_ret
      exact ⟨zAk hz2.out.symm, _, rfl⟩
     ·have hz2 := hid (show ordZ a.data.toList b.data.toList = ((a[k]'hka).toNat : Int) - ((b[k]'hkb).toNat : Int) by rw [hz.out, if_neg hxy, if_neg hx47, if_neg hy47])
      have e3 : (((b[k]'hkb).toNat : Int) == 47) = false := beq_eq_false_iff_ne.2 (fun e => zCQ hy47 e)
      clear hz hxy hx47 hy47
      go_wp2
      go_quiet (fail)
      go_wp2
      go_ret
      exact ⟨zAk hz2.out.symm, _, rfl⟩
  ·obtain rfl : k = m := by omega
   have hz := hid (Hz.out.trans hend.out)
   go_wp2
   go_ret
   exact ⟨zAk hz.out.symm, _, rfl⟩
open Go.RowKit
theorem zDz : (Tryz.prog.info? 65).map (fun i => (i.zero, i.size, i.bytes)) = some (some (.agg #[.string ⟨#[]⟩, .int .i64 0, .string ⟨#[]⟩]), 3, 40) := by kernel_rfl
theorem empty_rowF (w : World) (T : TypeId) (sz : Nat) : (w.alloc (.cells #[] T)).ownsRow w.heap.size T sz (.slice (some ⟨w.heap.size, 0, none⟩) 0 0) 0 [] := by
 exact ⟨by simp, Or.inr ⟨w.heap.size, 0, #[], rfl, Nat.le_refl _, heap_alloc_new w _, Nat.le_refl _, Nat.zero_le _, by simp, by simp⟩⟩
theorem zJl (l : List TFile) : ∀ v ∈ zAq l, v.oneCell' = true := by
 intro v hv
 obtain ⟨p, _, hp⟩ := List.mem_flatMap.1 hv
 simp only [tfV, List.mem_cons, List.not_mem_nil, or_false] at hp
 rcases hp with rfl | rfl | rfl <;> rfl
theorem zFB (v : Value) (l : List TFile) (base : Nat) (w : World) (hown : w.ownsRow base 65 3 v l.length (zAq l)) (hn : l.length ≤ 1000000) :
  Calls Tryz.prog 19 #[v] w fun e w' => ∃ ad cap, e = .returned (.slice ad l.length cap) ∧ w'.ownsRow w.heap.size 65 3 (.slice ad l.length cap) l.length (zAq l) ∧ Below w.heap.size w w' := by
 have hq := fun w a l c => Lib.run_eql_slice_nil (P := Tryz.prog) w 31 65 a l c 0 0 Tryz.underlying31
 rcases hown.2 with ⟨rfl, h0⟩ | ⟨g, cap, cur, rfl, _, hb, hnc, hcm, hcs, hct⟩
 ·obtain rfl := List.eq_nil_of_length_eq_zero h0
  clear hown hn h0
  go_enter Tryz.func19, Tryz.ntmps19
  go_wp2_with fail
  go_ret
  exact ⟨_, _, rfl, World.ownsRow_nil _ _ _ _, Below.refl _ _⟩
 ·obtain ⟨i0, hi, hz0, hz1, hz2⟩ := info_parts zDz
  have hE := empty_rowF w 65 3
  have hnews : ∀ j u, (zAq l)[j]? = some u → (w.alloc (.cells #[] 65)).cell? ((⟨g, 0, none⟩ : Addr).add j) = some u := fun j u hj => by
   have hgl := (hown.lt g rfl).2
   have hj2 : j < l.length * 3 := by
    rcases Nat.lt_or_ge j (l.length * 3) with h | h
    ·exact h
    ·rw [List.getElem?_eq_none (by rw [zBW]; exact h)] at hj; cases hj
   rw [addr_add, (((Below.refl w.heap.size w).alloc (Nat.le_refl _) _).cell (p := ⟨g, j, none⟩) hgl), hown.cellAt j hj2]
   exact hj
  have HE := hid hE
  have Hnews := hid hnews
  have HA := hid ((Below.refl w.heap.size w).alloc (Nat.le_refl _) (.cells #[] 65))
  clear hE hnews hown hb hcs hct
  go_enter Tryz.func19, Tryz.ntmps19
  go_wp2_with (at_builtin; refine wpList_append_own_at _ rfl _ _ 31 rfl w.heap.size 65 i0 _ 3 40 Tryz.underlying31 hi hz0 hz1 hz2 rfl (by decide) _ _ _ rfl HE.out ⟨g, 0, none⟩ l.length cap (zAq l) rfl (by rw [zBW]) Hnews.out (zJl l) (by unfold maxLen; omega) (by omega) (by simp) ?_; intro v' w' hown' hgrow _ hat)
  go_ret
  have := hown'
  rw [Nat.zero_add, List.nil_append] at this
  obtain ⟨ad, cap2, rfl⟩ := zAe this
  exact ⟨ad, cap2, rfl, this, HA.out.grown hgrow (by simp) (fun k hk => by cases hk; exact Nat.le_refl _)⟩
theorem zBA (s : ByteArray) (f k : Nat) : (s.extract f k).data.toList = (s.data.toList.drop f).take (k - f) := by
 simp [ByteArray.data_extract, Array.toList_extract]
theorem ba_ext {a b : ByteArray} (h : a.data.toList = b.data.toList) : a = b := by
 cases a; cases b
 simp at h
 rw [h]
theorem countB_one (s : ByteArray) : Lib.countB s ⟨#[47]⟩ = Lib.countByte s.data.toList 47 := Lib.count_one 47 s.data.toList
theorem split_any (s : ByteArray) (w : World) (hs : s.size < 4294967281) :
  Calls Tryz.prog 137 #[.string s, .string ⟨#[47]⟩] w fun e w' =>
   e = .returned (.slice (some ⟨w.heap.size, 0, none⟩) (Lib.countB s ⟨#[47]⟩ + 1) (Lib.countB s ⟨#[47]⟩ + 1)) ∧ w' = w.alloc (.cells ((Lib.splitB ⟨#[47]⟩ 0 (Lib.countB s ⟨#[47]⟩) s).map Value.string).toArray 9) := by
 have h1 : 1 ≤ (⟨#[47]⟩ : ByteArray).size := by decide
 have hle := Lib.countB_le ⟨#[47]⟩ h1 s.size s (Nat.le_refl _)
 have hlen := Lib.splitB_all ⟨#[47]⟩ h1 0 _ s rfl
 have hC : Calls Tryz.prog 188 #[.string s, .string ⟨#[47]⟩] w fun e w' => e = .returned (.int .i64 (Lib.countB s ⟨#[47]⟩)) ∧ w' = w := by
  rw [countB_one]
  exact Tryz.strings_Count_one s 47 w
 have hI : ∀ (x : ByteArray) (c : Array Value), x.size ≤ s.size → Calls Tryz.prog 189 #[.string x, .string ⟨#[47]⟩] (w.alloc (.cells c 9)) fun e w' => e = .returned (.int .i64 (Lib.indexB x ⟨#[47]⟩)) ∧ w' = w.alloc (.cells c 9) := fun x c _ => by
  have e : Lib.indexB x ⟨#[47]⟩ = Lib.indexByte x.data.toList 47 := Lib.index_one x.data.toList 47
  rw [e]
  exact Tryz.strings_Index_one x 47 _
 have c := Any.strings_genSplit_core Tryz.lays221 (by kernel_rfl) s ⟨#[47]⟩ 0 (-1) (Lib.countB s ⟨#[47]⟩ + 1) w hs h1 (Nat.zero_le _) hI hC (by decide) (by decide) (by rw [if_pos (by decide)]; omega)
 rw [Nat.add_sub_cancel, hlen] at c
 have e2 : Lib.cellsOf (Lib.splitB ⟨#[47]⟩ 0 (Lib.countB s ⟨#[47]⟩) s) (Lib.countB s ⟨#[47]⟩ + 1) = ((Lib.splitB ⟨#[47]⟩ 0 (Lib.countB s ⟨#[47]⟩) s).map Value.string).toArray := by rw [← hlen]; exact Lib.cellsOf_full _
 rw [e2] at c
 have HC := hid c
 clear c hC hI e2 hlen hle h1
 go_enter Tryz.func137, Tryz.ntmps137
 go_wp2_with fail
 refine HC.out.mono ?_
 rintro e w' ⟨rfl, hw⟩
 rw [hw]
 go_wp2_with fail
 go_ret
 exact ⟨rfl, rfl⟩
theorem all_take {l : List (List UInt8)} (hk : k < l.length) (h : (l.take k).all nameL = true) (hb : nameL l[k] = true) : (l.take (k + 1)).all nameL = true := by
 rw [List.take_succ_eq_append_getElem hk, List.all_append, h]
 simpa using hb
theorem all_bad {l : List (List UInt8)} (hk : k < l.length) (hb : nameL l[k] = false) : ¬ l.all nameL = true := by
 intro h
 have := List.all_eq_true.1 h _ (List.getElem_mem hk)
 rw [hb] at this; cases this
theorem path_any (s : ByteArray) (w : World) (hs : s.size ≤ 9223372036854775807) :
  Calls Tryz.prog 117 #[.string s] w fun e w' => e = .returned (.int .i64 (pathE s)) ∧ Below w.heap.size w w' := by
 by_cases h2 : 200 < s.size
 ·have hE := hid (show pathE s = 4 by unfold pathE; rw [if_pos h2])
  go_enter Tryz.func117, Tryz.ntmps117
  go_wp2_with fail
  go_ret
  exact ⟨zAk hE.out.symm, Below.refl _ _⟩
 ·have hE := hid (show pathE s = if (pieces s.data.toList).all nameL = true then 0 else 10 by unfold pathE; rw [if_neg h2])
  have hsp := split_any s w (by omega)
  have hle := Lib.countB_le ⟨#[47]⟩ (by decide) s.size s (Nat.le_refl _)
  have hlen := Lib.splitB_all ⟨#[47]⟩ (by decide) 0 _ s rfl
  have hpc := zHa s
  generalize Lib.countB s ⟨#[47]⟩ = n at hsp hle hlen hpc
  generalize Lib.splitB ⟨#[47]⟩ 0 n s = ps at hsp hlen hpc
  have HSP := hid hsp
  have Hpc := hid hpc
  clear hsp hpc
  go_enter Tryz.func117, Tryz.ntmps117
  go_wp2_with fail
  refine HSP.out.mono ?_
  rintro e w1 ⟨rfl, hw⟩
  have hbk : Blk w1 w.heap.size (ps.map Value.string) 9 := by rw [hw]; exact Blk.new w _ _
  have hb1 : Below w.heap.size w w1 := by rw [hw]; exact (Below.refl _ _).alloc (Nat.le_refl _) _
  have HB1 := hid hb1
  have HSZ := hid hb1.size
  have Hbk := hid hbk
  generalize w.heap.size = g at Hbk ⊢
  clear hw HSP hbk hb1
  go_wp2_with fail
  go_loopw [4, 11] (fun _ i wr => ∃ k : Nat, i = .int .i64 k ∧ k ≤ n + 1 ∧ Hid (((ps.map (·.data.toList)).take k).all nameL = true) ∧ Below w1.heap.size w1 wr) (fun _ i _ => n + 1 - (intOf i).toNat)
  case atStart => exact ⟨0, rfl, Nat.zero_le _, hid rfl, Below.refl _ _⟩
  case round =>
   obtain ⟨k, rfl, hk, Hok, hbr⟩ := hrel
   have hgl := Hbk.out.lt
   by_cases hlt : k < n + 1
   ·have hkp : k < ps.length := by omega
    have hc : wr.cell? ⟨g, k, none⟩ = some (.string ps[k]) := by
     rw [hbr.cell (p := ⟨g, k, none⟩) hgl, Hbk.out.cell k]
     simp [hkp]
    have hm : (ps.map (·.data.toList))[k]'(by simpa using hkp) = ps[k].data.toList := by simp
    have hml : k < (ps.map (·.data.toList)).length := by simpa using hkp
    have HN := hid (name_any ps[k] wr)
    cases hb : nameL ps[k].data.toList with
    | true =>
     have hall := hid (all_take hml Hok.out (by rw [hm]; exact hb))
     rw [hb] at HN
     generalize ps[k] = pk at hc HN
     clear hb hm
     go_wp2_with fail
     refine HN.out.mono ?_
     rintro e w2 ⟨rfl, hb2⟩
     have hbr2 := zAd hbr hb2
     go_wp2_with fail
     go_roundw
     case rel => exact ⟨k + 1, by go_num, by omega, hall, hbr2⟩
     case measure => simp [intOf]; omega
    | false =>
     have hall := hid (all_bad hml (by rw [hm]; exact hb))
     rw [hb] at HN
     generalize ps[k] = pk at hc HN
     clear hb hm
     go_wp2_with fail
     refine HN.out.mono ?_
     rintro e w2 ⟨rfl, hb2⟩
     have hbr2 := zAd hbr hb2
     go_wp2_with fail
     go_ret
     rw [Hpc.out] at hall
     have hf := hE.out
     rw [if_neg hall.out] at hf
     exact ⟨zAk hf.symm, HB1.out.trans (hbr2.mono HSZ.out)⟩
   ·go_wp2_with fail
    go_ret
    have hf := hE.out
    have hall := Hok.out
    rw [List.take_of_length_le (by simp; omega), Hpc.out] at hall
    rw [if_pos hall] at hf
    exact ⟨zAk hf.symm, HB1.out.trans (hbr.mono HSZ.out)⟩
theorem zFI (s p : ByteArray) : zAR s p = (decide (p.size < s.size) && decide (s.extract 0 p.size = p) && decide (∃ h : p.size < s.size, s[p.size] = 47)) := by
 rw [Bool.eq_iff_iff]
 simp only [zAR, Bool.and_eq_true, decide_eq_true_eq]
 constructor
 ·rintro ⟨t, ht⟩
  have hl := congrArg List.length ht
  simp at hl
  have hlt : p.size < s.size := by omega
  have hx : (s.extract 0 p.size).data.toList = p.data.toList := by
   rw [zBA, List.drop_zero, Nat.sub_zero, ← ht, List.append_assoc, List.take_left' (by simp)]
  refine ⟨⟨hlt, ?_⟩, hlt, ?_⟩
  ·exact ba_ext hx
  ·have h2 : s.data.toList[p.size]? = some 47 := by
    rw [← ht, List.append_assoc, List.getElem?_append_right (by simp)]
    simp
   rw [List.getElem?_eq_getElem (by simpa using hlt)] at h2
   injection h2 with h2
 ·rintro ⟨⟨hlt, hx⟩, _, hb⟩
  have hx2 : (s.extract 0 p.size).data.toList = p.data.toList := by rw [hx]
  rw [zBA, List.drop_zero, Nat.sub_zero] at hx2
  refine ⟨s.data.toList.drop (p.size + 1), ?_⟩
  rw [← hx2]
  conv => rhs; rw [← List.take_append_drop p.size s.data.toList, zBZ s p.size hlt, hb]
  simp
theorem within_any (s p : ByteArray) (w : World) (hs : s.size ≤ 9223372036854775807) (hp : p.size ≤ 9223372036854775807) :
  Calls Tryz.prog 119 #[.string s, .string p] w fun e w' => e = .returned (.bool (zAR s p)) ∧ w = w' := by
 have hI := zFI s p
 by_cases h1 : p.size < s.size
 ·have hs0 : 0 < s.size := by omega
  by_cases h2 : s.extract 0 p.size = p
  ·have q2 := zEC h2
   have hI2 := hid (show zAR s p = decide (s[p.size]'h1 = 47) by rw [hI, decide_eq_true h1, decide_eq_true h2]; simp [h1])
   clear hI h2
   go_enter Tryz.func119, Tryz.ntmps119
   go_wp2
   go_ret
   refine ⟨zBa ?_, rfl⟩
   rw [hI2.out, Bool.eq_iff_iff, beq_iff_eq, decide_eq_true_iff]
   constructor
   ·intro h
    exact UInt8.toNat_inj.1 (by have : (47 : UInt8).toNat = 47 := rfl; omega)
   ·intro h
    rw [h]; rfl
  ·have q2 := zIJ h2
   have hI2 := hid (show zAR s p = false by rw [hI, decide_eq_false h2]; simp)
   clear hI h2
   go_enter Tryz.func119, Tryz.ntmps119
   go_wp2
   go_ret
   exact ⟨zBa hI2.out.symm, rfl⟩
 ·have hI2 := hid (show zAR s p = false by rw [hI, decide_eq_false h1]; rfl)
  clear hI
  go_enter Tryz.func119, Tryz.ntmps119
  go_wp2
  go_ret
  exact ⟨zBa hI2.out.symm, rfl⟩
theorem zGu (n : Int) (w : World) :
  Calls Tryz.prog 97 #[.int .i64 n] w fun e w' => e = .returned (.bool (decide (0 ≤ n ∧ n ≤ 511))) ∧ w = w' := by
 by_cases h0 : 0 ≤ n
 ·go_enter Tryz.func97, Tryz.ntmps97
  go_wp2
  go_ret
  exact ⟨zBa (by simp [h0]), rfl⟩
 ·go_enter Tryz.func97, Tryz.ntmps97
  go_wp2
  go_ret
  exact ⟨zBa (by simp; omega), rfl⟩
theorem paths_any (ad : Option Addr) (cap : Nat) (l : List ByteArray) (w : World) (h : zHZ w ad l) (hl : l.length ≤ 1000000) (hs : ∀ s ∈ l, s.size ≤ 9223372036854775807) :
  Calls Tryz.prog 96 #[.slice ad l.length cap] w fun e w' => e = .returned (.int .i64 (zAP l)) ∧ Below w.heap.size w w' := by
 have H := hid h
 have Hs := hid (show ∀ k (hk : k < l.length), l[k].size ≤ 9223372036854775807 from fun k hk => hs _ (List.getElem_mem hk))
 by_cases h256 : 256 < l.length
 ·have hE := hid (show zAP l = 7 by unfold zAP; rw [if_pos h256])
  clear h hs
  go_enter Tryz.func96, Tryz.ntmps96
  go_wp2_with fail
  go_ret
  exact ⟨zAk hE.out.symm, Below.refl _ _⟩
 ·have hE := hid (show zAP l = zAC (zBr l 0) (l.drop 0) by unfold zAP; rw [if_neg h256]; rfl)
  clear h hs
  go_enter Tryz.func96, Tryz.ntmps96
  go_wp2_with fail
  go_loopw [3, 4, 5, 6, 12] (fun _ _ _ _ i wr => ∃ k : Nat, i = .int .i64 k ∧ k ≤ l.length ∧ Hid (zAP l = zAC (zBr l k) (l.drop k)) ∧ Below w.heap.size w wr) (fun _ _ _ _ i _ => l.length - (intOf i).toNat)
  case atStart => exact ⟨0, rfl, Nat.zero_le _, hE, Below.refl _ _⟩
  case round =>
   obtain ⟨k, rfl, hk, HE, hbr⟩ := hrel
   by_cases hlt : k < l.length
   ·have hat := zEb H.out hbr
    obtain ⟨b, off, rfl, hb, hc⟩ := hat.resolve_left (by intro h; rw [h] at hlt; simp at hlt)
    have hck := hc k hlt
    have HP := hid (path_any l[k] wr (Hs.out k hlt))
    by_cases hp0 : pathE l[k] = 0
    ·rw [hp0] at HP
     cases k with
     | zero =>
      have hE2 := hid (HE.out.trans (zEM hlt hp0))
      have hck : wr.cell? ⟨b, off, none⟩ = some (.string l[0]) := hc 0 hlt
      generalize l[0] = s at hck HP
      clear hp0 hc hat
      go_wp2_with fail
      refine HP.out.mono ?_
      rintro e w1 ⟨rfl, hb1⟩
      have hbr1 := zAd hbr hb1
      clear hck
      go_wp2_with fail
      go_roundw
      case rel => exact ⟨1, by go_num, by omega, hE2, hbr1⟩
      case measure => simp [intOf]; omega
     | succ k =>
      have hlt' : k < l.length := by omega
      have hE2 := hid (HE.out.trans (zFP hlt hp0))
      have hcp := hc k hlt'
      have HO := hid (fun w1 => order_any l[k] l[k + 1] w1 (Hs.out k hlt') (Hs.out (k + 1) hlt))
      have HW := hid (fun w1 => within_any l[k + 1] l[k] w1 (Hs.out (k + 1) hlt) (Hs.out k hlt'))
      have hzero := hid (zGI l[k].data.toList l[k + 1].data.toList).2
      have heq : l[k] = l[k + 1] ↔ ordZ l[k].data.toList l[k + 1].data.toList = 0 := by
       rw [hzero.out]
       exact ⟨fun h => by rw [h], fun h => ba_ext h⟩
      have hE3 := hid (show zAP l = if 0 < ordZ l[k].data.toList l[k + 1].data.toList then 12 else if ordZ l[k].data.toList l[k + 1].data.toList = 0 ∨ zAR l[k + 1] l[k] = true then 9 else zAC (zBr l (k + 2)) (l.drop (k + 2)) by
       rw [hE2.out]
       simp only [heq])
      clear hE2 hzero heq hc hat hp0
      generalize ordZ l[k].data.toList l[k + 1].data.toList = z at HO hE3
      generalize zAR l[k + 1] l[k] = wi at HW hE3
      have hcc := hid hck
      have hcq := hid hcp
      generalize hx : l[k + 1] = s at hck HP HO HW hcc
      generalize hy : l[k] = p at hcp HO HW hcq
      clear hx hy
      have e1 : ((k + 1 : Nat) : Int) - 1 = (k : Int) := by omega
      have ek : (((k + 1 : Nat) : Int) == 0) = false := beq_eq_false_iff_ne.2 (by omega)
      go_wp2_with fail
      refine HP.out.mono ?_
      rintro e w1 ⟨rfl, hb1⟩
      have hbr1 := zAd hbr hb1
      have hcs : w1.cell? ⟨b, off + (k + 1), none⟩ = some (.string s) := (hb1.cell (p := ⟨b, off + (k + 1), none⟩) hb).trans hcc.out
      have hcp1 : w1.cell? ⟨b, off + k, none⟩ = some (.string p) := (hb1.cell (p := ⟨b, off + k, none⟩) hb).trans hcq.out
      clear hck hcp
      go_wp2_with fail
      refine (HO.out w1).mono ?_
      rintro e w2' ⟨rfl, nd, hw2⟩
      have hbr2 : Below w.heap.size w w2' := by rw [hw2]; exact below_drewN hbr1 nd
      have hcp2 : w2'.cell? ⟨b, off + k, none⟩ = some (.string p) := by rw [hw2]; exact hcp1
      clear hw2 hcs hcp1 hcc hcq HP HO
      by_cases hz1 : 0 < z
      ·have hE4 := hid (hE3.out.trans (if_pos hz1))
       go_wp2_with fail
       go_ret
       exact ⟨zAk hE4.out.symm, hbr2⟩
      ·by_cases hz2 : z = 0
       ·have hE4 := hid ((hE3.out.trans (if_neg hz1)).trans (if_pos (Or.inl hz2)))
        have hz3 : (z == 0) = true := by rw [beq_iff_eq]; exact hz2
        clear hz2
        go_wp2_with fail
        go_ret
        exact ⟨zAk hE4.out.symm, hbr2⟩
       ·have hz3 : (z == 0) = false := beq_eq_false_iff_ne.2 hz2
        have hE4 := hid (show zAP l = if wi = true then 9 else zAC (zBr l (k + 2)) (l.drop (k + 2)) by rw [hE3.out, if_neg hz1]; simp [hz2])
        clear hz2 hE3
        go_wp2_with fail
        refine (HW.out w2').mono ?_
        rintro e w3 ⟨rfl, rfl⟩
        cases wi with
        | true =>
         rw [if_pos rfl] at hE4
         go_wp2_with fail
         go_ret
         exact ⟨zAk hE4.out.symm, hbr2⟩
        | false =>
         rw [if_neg (by decide)] at hE4
         go_wp2_with fail
         go_roundw
         case rel => exact ⟨k + 2, by go_num, by omega, hE4, hbr2⟩
         case measure => simp [intOf]; omega
    ·have hE2 := hid (HE.out.trans (zGR hlt hp0))
     generalize pathE l[k] = pe at HP hE2 hp0
     generalize l[k] = s at hck HP
     have hpb : (pe != 0) = true := by rw [bne_iff_ne]; exact hp0
     clear hp0 hc hat
     go_wp2_with fail
     refine HP.out.mono ?_
     rintro e w1 ⟨rfl, hb1⟩
     have hbr1 := zAd hbr hb1
     clear hck
     go_wp2_with fail
     go_ret
     exact ⟨zAk hE2.out.symm, hbr1⟩
   ·have hE2 := hid (HE.out.trans (zHq hlt))
    go_wp2_with fail
    go_ret
    exact ⟨zAk hE2.out.symm, hbr⟩
theorem zEt : (Tryz.prog.info? 9).map (fun i => (i.zero, i.size, i.bytes)) = some (some (.string ByteArray.empty), 1, 16) := by kernel_rfl
def zBo (fs : List TFile) (k : Nat) : List Value := ((fs.take k).map TFile.path).map Value.string
theorem zFp (fs : List TFile) (k : Nat) (h : k < fs.length) : zBo fs (k + 1) = zBo fs k ++ [.string fs[k].path] := by
 unfold zBo
 rw [List.take_succ_eq_append_getElem h, List.map_append, List.map_append]
 rfl
theorem zHd (ad : Option Addr) (cap : Nat) (fs : List TFile) (w : World) (h : TfsAt w ad fs) (hl : fs.length ≤ 1000) (hs : ∀ f ∈ fs, f.path.size ≤ 9223372036854775807 ∧ f.data.size ≤ 9223372036854775807) :
  Calls Tryz.prog 65 #[.slice ad fs.length cap] w fun e w' => e = .returned (.int .i64 (zAy fs)) ∧ Below w.heap.size w w' := by
 have H := hid h
 have Hs := hid hs
 clear h hs
 go_enter Tryz.func65, Tryz.ntmps65
 go_wp2_with fail
 go_loopw [3, 5, 11] (fun nv _ i wr => ∃ k : Nat, i = .int .i64 k ∧ k ≤ fs.length ∧ Hid (wr.ownsRow w.heap.size 9 1 nv k (zBo fs k)) ∧ Below w.heap.size w wr) (fun _ _ i _ => fs.length - (intOf i).toNat)
 case atStart => exact ⟨0, rfl, Nat.zero_le _, hid (World.ownsRow_nil _ _ _ _), Below.refl _ _⟩
 case round =>
  obtain ⟨k, rfl, hk, Hown, hbr⟩ := hrel
  by_cases hlt : k < fs.length
  ·obtain ⟨b, off, rfl, hb, c0, c1, c2⟩ := (H.out.below hbr).get k hlt
   have hsn := hid (zFp fs k hlt)
   have hown := Hown.out.alloc (.cells #[.string fs[k].path, .int .i64 fs[k].mode, .string fs[k].data] 65)
   have hbr1 := hbr.alloc hbr.size (.cells #[.string fs[k].path, .int .i64 fs[k].mode, .string fs[k].data] 65)
   have hsz := hbr.size
   generalize fs[k].path = p at c0 hsn hown hbr1
   generalize fs[k].mode = m at c1 hown hbr1
   generalize fs[k].data = d at c2 hown hbr1
   go_wp2_with (at_builtin; refine zAH rfl _ _ 49 rfl w.heap.size 9 1 16 Tryz.underlying49 _ zEt rfl (by decide) _ _ _ rfl hown _ ?c0 [.string p] rfl rfl (by simp [Value.oneCell']) ?c1 ?c2 ?c3 ?_)
   case c0 => simp
   case c1 => unfold maxLen; omega
   case c2 => omega
   case c3 => simp; omega
   intro v' w3 hown3 hb3
   have Hown3 := hid (show w3.ownsRow w.heap.size 9 1 v' (k + 1) (zBo fs (k + 1)) by rw [hsn.out]; exact hown3)
   clear hown3 hown Hown hsn
   go_wp2_with fail
   go_roundw
   case rel => exact ⟨k + 1, by go_num, by omega, Hown3, hbr1.trans hb3⟩
   case measure => simp [intOf]; omega
  ·obtain rfl : k = fs.length := by omega
   have hown := Hown.out
   unfold zBo at hown
   rw [List.take_length] at hown
   have hml : (fs.map TFile.path).length = fs.length := by simp
   obtain ⟨na, nc, hv, hat⟩ := zCs (ss := fs.map TFile.path) (by rw [hml]; exact hown)
   subst hv
   have HP := hid (paths_any na nc (fs.map TFile.path) wr hat (by omega) (fun s hs => by
    obtain ⟨f, hf, rfl⟩ := List.mem_map.1 hs
    exact (Hs.out f hf).1))
   rw [hml] at HP ⊢
   clear Hown hown hat
   by_cases hp0 : zAP (fs.map TFile.path) = 0
   ·have hE := hid (show zAy fs = zCy (fs.drop 0) by unfold zAy; rw [if_neg (fun hh => hh hp0)]; rfl)
    rw [hp0] at HP
    clear hp0
    go_wp2_with fail
    refine HP.out.mono ?_
    rintro e w1 ⟨rfl, hb1⟩
    have hbr1 := zAd hbr hb1
    clear HP hb1 hbr hlt hk
    go_wp2_with fail
    go_loopw [8, 28] (fun _ i wr => ∃ k : Nat, i = .int .i64 k ∧ k ≤ fs.length ∧ Hid (zAy fs = zCy (fs.drop k)) ∧ Below w.heap.size w wr) (fun _ i _ => fs.length - (intOf i).toNat)
    case atStart => exact ⟨0, rfl, Nat.zero_le _, hE, hbr1⟩
    case round =>
     obtain ⟨k, rfl, hk, HE, hbr⟩ := hrel
     clear hbr1 hE
     by_cases hlt : k < fs.length
     ·obtain ⟨b, off, rfl, hb, c0, c1, c2⟩ := (H.out.below hbr).get k hlt
      have hE2 := hid (HE.out.trans (zFU hlt))
      have hbr1 := hbr.alloc hbr.size (.cells #[.string fs[k].path, .int .i64 fs[k].mode, .string fs[k].data] 65)
      generalize fs[k].path = p at c0 hbr1
      generalize fs[k].mode = m at c1 hbr1 hE2
      generalize fs[k].data = d at c2 hbr1 hE2
      by_cases hm : 0 ≤ m ∧ m ≤ 511
      ·have hdm : decide (0 ≤ m ∧ m ≤ 511) = true := decide_eq_true hm
       have hE3 := hid (hE2.out.trans (if_neg (by omega)))
       by_cases hd : 65536 < d.size
       ·have hE4 := hid (hE3.out.trans (if_pos hd))
        have HM := hid (fun w1 => zGu m w1)
        rw [hdm] at HM
        clear hm hdm hE2 hE3
        go_wp2_with fail
        refine (HM.out _).mono ?_
        rintro e w2 ⟨rfl, rfl⟩
        go_wp2_with fail
        go_ret
        exact ⟨zAk hE4.out.symm, hbr1⟩
       ·have hE4 := hid (hE3.out.trans (if_neg hd))
        have HM := hid (fun w1 => zGu m w1)
        rw [hdm] at HM
        clear hm hdm hE2 hE3
        go_wp2_with fail
        refine (HM.out _).mono ?_
        rintro e w2 ⟨rfl, rfl⟩
        go_wp2_with fail
        go_roundw
        case rel => exact ⟨k + 1, by go_num, by omega, hE4, hbr1⟩
        case measure => simp [intOf]; omega
      ·have hdm : decide (0 ≤ m ∧ m ≤ 511) = false := decide_eq_false hm
       have hE3 := hid (hE2.out.trans (if_pos (by omega)))
       have HM := hid (fun w1 => zGu m w1)
       rw [hdm] at HM
       clear hm hdm hE2
       go_wp2_with fail
       refine (HM.out _).mono ?_
       rintro e w2 ⟨rfl, rfl⟩
       go_wp2_with fail
       go_ret
       exact ⟨zAk hE3.out.symm, hbr1⟩
     ·have hE2 := hid (HE.out.trans (zHK hlt))
      go_wp2_with fail
      go_ret
      exact ⟨zAk hE2.out.symm, hbr⟩
   ·have hE := hid (show zAy fs = zAP (fs.map TFile.path) by unfold zAy; rw [if_pos hp0])
    generalize zAP (fs.map TFile.path) = pe at HP hE hp0
    have hpb : (pe != 0) = true := by rw [bne_iff_ne]; exact hp0
    clear hp0
    go_wp2_with fail
    refine HP.out.mono ?_
    rintro e w1 ⟨rfl, hb1⟩
    have hbr1 := zAd hbr hb1
    go_wp2_with fail
    go_ret
    exact ⟨zAk hE.out.symm, hbr1⟩
end Go.Proofs.YtaemlplcjjbamaaGreatDoor
