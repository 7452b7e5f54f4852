/- What may be a name, a path, a tree: plain, as the program tells it and as the document tells it. No program in sight. -/
import Derived.Test.YtmmnaieikfekfaaGreatDoorKit
import Derived.Lib.SplitLaws
import Derived.Laws.RangeAny
namespace Go.Proofs.YtmmnaieikfekfaaGreatDoor
open Go Go.RowKit
set_option linter.unusedVariables false

/-- a byte that a name may have -/
def okNB (b : UInt8) : Bool := decide (33 ≤ b.toNat ∧ b.toNat ≤ 126)
def nameL (s : List UInt8) : Bool := decide (s ≠ [] ∧ s ≠ [46] ∧ s ≠ [46, 46] ∧ s.length ≤ 32) && s.all okNB
/-- what lies between slashes -/
def pieces : List UInt8 → List (List UInt8)
  | [] => [[]]
  | c :: r => if c = 47 then [] :: pieces r else match pieces r with | [] => [[c]] | p :: ps => (c :: p) :: ps
theorem pieces_none : ∀ (a : List UInt8), (∀ b ∈ a, b ≠ 47) → pieces a = [a]
  | [], _ => rfl
  | c :: r, h => by
    unfold pieces
    rw [if_neg (h c (List.mem_cons.2 (Or.inl rfl))), pieces_none r (fun b hb => h b (List.mem_cons.2 (Or.inr hb)))]
theorem pieces_cut : ∀ (a r : List UInt8), (∀ b ∈ a, b ≠ 47) → pieces (a ++ 47 :: r) = a :: pieces r
  | [], r, _ => by
    show pieces (47 :: r) = _
    conv => lhs; unfold pieces
    rw [if_pos rfl]
  | c :: a, r, h => by
    show pieces (c :: (a ++ 47 :: r)) = _
    conv => lhs; unfold pieces
    rw [if_neg (h c (List.mem_cons.2 (Or.inl rfl))), pieces_cut a r (fun b hb => h b (List.mem_cons.2 (Or.inr hb)))]
theorem index_slash : ∀ (s : List UInt8), (Lib.index s [47] = -1 ∧ ∀ b ∈ s, b ≠ 47) ∨ ∃ (i : Nat), Lib.index s [47] = i ∧ ∃ r, s = s.take i ++ 47 :: r ∧ r = s.drop (i + 1) ∧ ∀ b ∈ s.take i, b ≠ 47
  | [] => Or.inl ⟨rfl, fun b hb => by cases hb⟩
  | c :: l => by
    by_cases hc : c = 47
    · subst hc
      right
      refine ⟨0, ?_, l, rfl, rfl, fun b hb => by cases hb⟩
      rw [Lib.index]
      simp [List.isPrefixOf]
    · have hp : ([47] : List UInt8).isPrefixOf (c :: l) = false := by simp [List.isPrefixOf, Ne.symm hc]
      have hix : Lib.index (c :: l) [47] = if Lib.index l [47] == -1 then -1 else Lib.index l [47] + 1 := by rw [Lib.index, hp]; simp
      rcases index_slash l with ⟨h1, h2⟩ | ⟨i, h1, r, h2, h3, h4⟩
      · left
        refine ⟨by rw [hix, h1]; rfl, fun b hb => ?_⟩
        rcases List.mem_cons.1 hb with rfl | hb
        · exact hc
        · exact h2 b hb
      · right
        refine ⟨i + 1, ?_, r, ?_, h3, fun b hb => ?_⟩
        · rw [hix, h1, if_neg (by rw [beq_iff_eq]; omega)]
          omega
        · rw [List.take_succ_cons, List.cons_append, ← h2]
        · rw [List.take_succ_cons] at hb
          rcases List.mem_cons.1 hb with rfl | hb
          · exact hc
          · exact h4 b hb
theorem splitK_pieces : ∀ (k : Nat) (s : List UInt8), s.count 47 = k → Lib.splitK [47] 0 k s = pieces s
  | 0, s, h => by
    have hn : ∀ b ∈ s, b ≠ 47 := fun b hb e => by
      subst e
      have := List.count_pos_iff.2 hb
      omega
    rw [pieces_none s hn]
    rfl
  | k + 1, s, h => by
    rcases index_slash s with ⟨h1, h2⟩ | ⟨i, h1, r, h2, h3, h4⟩
    · exfalso
      have : s.count 47 = 0 := List.count_eq_zero.2 (fun hm => h2 47 hm rfl)
      omega
    · unfold Lib.splitK
      rw [h1, if_neg (by rw [beq_iff_eq]; omega)]
      show s.take (((i : Nat) : Int).toNat + 0) :: Lib.splitK [47] 0 k (s.drop (((i : Nat) : Int).toNat + 1)) = _
      rw [Int.toNat_natCast, Nat.add_zero, ← h3]
      have hc : r.count 47 = k := by
        have e := congrArg (List.count 47) h2
        rw [List.count_append, List.count_cons_self] at e
        have : (s.take i).count 47 = 0 := List.count_eq_zero.2 (fun hm => h4 47 hm rfl)
        omega
      rw [splitK_pieces k r hc]
      conv => rhs; rw [h2]
      rw [pieces_cut _ _ h4]
theorem split_pieces (s : ByteArray) : (Lib.splitB ⟨#[47]⟩ 0 (Lib.countB s ⟨#[47]⟩) s).map (·.data.toList) = pieces s.data.toList := by
  rw [Lib.splitB_data]
  have e : Lib.countB s ⟨#[47]⟩ = s.data.toList.count 47 := Lib.count_one 47 s.data.toList
  rw [e]
  exact splitK_pieces _ _ rfl
/-- what is wrong with a path -/
def pathE (s : ByteArray) : Int := if 200 < s.size then 4 else if (pieces s.data.toList).all nameL = true then 0 else 10
/-- how two paths stand, as the program tells it -/
def ordZ : List UInt8 → List UInt8 → Int
  | x :: a, y :: b => if x = y then ordZ a b else if x = 47 then -1 else if y = 47 then 1 else (x.toNat : Int) - (y.toNat : Int)
  | a, b => (a.length : Int) - (b.length : Int)
theorem ordZ_nil (b : List UInt8) : ordZ [] b = -(b.length : Int) := by
  unfold ordZ
  simp
theorem ordZ_nil2 (a : List UInt8) : ordZ a [] = (a.length : Int) := by
  cases a <;> unfold ordZ <;> simp
theorem ordZ_cons (x y : UInt8) (a b : List UInt8) : ordZ (x :: a) (y :: b) = if x = y then ordZ a b else if x = 47 then -1 else if y = 47 then 1 else (x.toNat : Int) - (y.toNat : Int) := by
  conv => lhs; unfold ordZ
/-- how two paths stand, as the document tells it -/
def keyB (b : UInt8) : Int := if b = 47 then 0 else (b.toNat : Int) + 1
def ordR : List UInt8 → List UInt8 → Int
  | [], [] => 0
  | [], _ :: _ => -1
  | _ :: _, [] => 1
  | x :: a, y :: b => if keyB x < keyB y then -1 else if keyB y < keyB x then 1 else ordR a b
theorem toNat_ne {x y : UInt8} (h : x ≠ y) : (x.toNat : Int) ≠ (y.toNat : Int) := fun e => h (UInt8.toNat_inj.1 (by omega))
theorem ordR_pos : ∀ (a b : List UInt8), (ordR b a < 0 ↔ 0 < ordZ a b) ∧ (ordZ a b = 0 ↔ a = b)
  | [], [] => by decide
  | [], y :: b => by
    rw [ordZ_nil]
    refine ⟨⟨fun h => ?_, fun h => ?_⟩, ⟨fun h => ?_, fun h => by cases h⟩⟩
    · unfold ordR at h; omega
    · simp at h; omega
    · simp at h; omega
  | x :: a, [] => by
    rw [ordZ_nil2]
    refine ⟨⟨fun h => by simp, fun h => ?_⟩, ⟨fun h => ?_, fun h => by cases h⟩⟩
    · unfold ordR; omega
    · simp at h; omega
  | x :: a, y :: b => by
    obtain ⟨h1, h2⟩ := ordR_pos a b
    have hx := x.toNat_lt
    have hy := y.toNat_lt
    have hk : ordR (y :: b) (x :: a) = if keyB y < keyB x then -1 else if keyB x < keyB y then 1 else ordR b a := by
      conv => lhs; unfold ordR
    rw [ordZ_cons, hk]
    by_cases hxy : x = y
    · subst hxy
      rw [if_neg (by omega), if_neg (by omega), if_pos rfl]
      exact ⟨h1, by rw [h2]; simp⟩
    · have hne := toNat_ne hxy
      rw [if_neg hxy]
      have hf : ¬ (x :: a = y :: b) := fun e => hxy (by injection e)
      have e47 : (47 : UInt8).toNat = 47 := rfl
      unfold keyB
      by_cases hx47 : x = 47
      · have hy47 : ¬ y = 47 := fun e => hxy (hx47.trans e.symm)
        rw [if_pos hx47, if_pos hx47, if_neg hy47]
        rw [if_neg (by omega), if_pos (by omega)]
        exact ⟨by omega, by constructor <;> intro h <;> first | omega | exact absurd h hf⟩
      · rw [if_neg hx47, if_neg hx47]
        by_cases hy47 : y = 47
        · rw [if_pos hy47, if_pos hy47, if_pos (by omega)]
          exact ⟨by omega, by constructor <;> intro h <;> first | omega | exact absurd h hf⟩
        · rw [if_neg hy47, if_neg hy47]
          by_cases hlt : (y.toNat : Int) < x.toNat
          · rw [if_pos (by omega)]
            exact ⟨by omega, by constructor <;> intro h <;> first | omega | exact absurd h hf⟩
          · rw [if_neg (by omega), if_pos (by omega)]
            exact ⟨by omega, by constructor <;> intro h <;> first | omega | exact absurd h hf⟩
/-- does a path lie in another one? -/
def withinB (s p : ByteArray) : Bool := decide (p.data.toList ++ [47] <+: s.data.toList)
/-- a file of a tree -/
structure TFile where
  path : ByteArray
  mode : Int
  data : ByteArray
/-- what is wrong with paths, behind another one -/
def pathsGo : Option ByteArray → List ByteArray → Int
  | _, [] => 0
  | none, s :: r => if pathE s ≠ 0 then pathE s else pathsGo (some s) r
  | some p, s :: r => if pathE s ≠ 0 then pathE s else if 0 < ordZ p.data.toList s.data.toList then 12 else if p = s ∨ withinB s p = true then 9 else pathsGo (some s) r
def pathsE (l : List ByteArray) : Int := if 256 < l.length then 7 else pathsGo none l
def modesE : List TFile → Int
  | [] => 0
  | f :: r => if f.mode < 0 ∨ 511 < f.mode then 11 else if 65536 < f.data.size then 4 else modesE r
/-- what is wrong with a tree -/
def checkE (l : List TFile) : Int := if pathsE (l.map TFile.path) ≠ 0 then pathsE (l.map TFile.path) else modesE l
def prevOf (l : List ByteArray) (i : Nat) : Option ByteArray := if i = 0 then none else l[i - 1]?
theorem prevOf_succ {l : List ByteArray} {i : Nat} (h : i < l.length) : prevOf l (i + 1) = some l[i] := by
  unfold prevOf
  rw [if_neg (by omega), Nat.add_sub_cancel, List.getElem?_eq_getElem h]
theorem paths_end {l : List ByteArray} {i : Nat} (h : ¬ i < l.length) : pathsGo (prevOf l i) (l.drop i) = 0 := by
  rw [List.drop_eq_nil_of_le (by omega)]
  unfold pathsGo
  rfl
theorem paths_bad {l : List ByteArray} {i : Nat} (h : i < l.length) (he : pathE l[i] ≠ 0) : pathsGo (prevOf l i) (l.drop i) = pathE l[i] := by
  rw [List.drop_eq_getElem_cons h]
  cases prevOf l i with
  | none => unfold pathsGo; rw [if_pos he]
  | some p => unfold pathsGo; rw [if_pos he]
theorem paths_first {l : List ByteArray} (h : 0 < l.length) (he : pathE l[0] = 0) : pathsGo (prevOf l 0) (l.drop 0) = pathsGo (prevOf l 1) (l.drop 1) := by
  rw [List.drop_eq_getElem_cons h, prevOf_succ h]
  have e : prevOf l 0 = none := rfl
  rw [e]
  conv => lhs; unfold pathsGo
  rw [if_neg (fun hh => hh he)]
theorem paths_step {l : List ByteArray} {i : Nat} (h : i + 1 < l.length) (he : pathE l[i + 1] = 0) :
    pathsGo (prevOf l (i + 1)) (l.drop (i + 1)) = if 0 < ordZ l[i].data.toList l[i + 1].data.toList then 12 else if l[i] = l[i + 1] ∨ withinB l[i + 1] l[i] = true then 9 else pathsGo (prevOf l (i + 2)) (l.drop (i + 2)) := by
  rw [List.drop_eq_getElem_cons h, prevOf_succ h, prevOf_succ (show i < l.length by omega)]
  conv => lhs; unfold pathsGo
  rw [if_neg (fun hh => hh he)]
theorem modes_step {l : List TFile} {i : Nat} (h : i < l.length) : modesE (l.drop i) = if l[i].mode < 0 ∨ 511 < l[i].mode then 11 else if 65536 < l[i].data.size then 4 else modesE (l.drop (i + 1)) := by
  rw [List.drop_eq_getElem_cons h]
  conv => lhs; unfold modesE
theorem modes_end {l : List TFile} {i : Nat} (h : ¬ i < l.length) : modesE (l.drop i) = 0 := by
  rw [List.drop_eq_nil_of_le (by omega)]
  rfl
end Go.Proofs.YtmmnaieikfekfaaGreatDoor
