/- One byte of a chain of records is changed: what is read of it begins the records. No program in sight. -/
import Derived.Test.YtaeklleogniimaaGreatDoorIdeal
import Derived.Test.YtaeklleogniimaaGreatDoorRead
namespace Go.Proofs.YtaeklleogniimaaGreatDoor
open Go Go.RowKit
set_option linter.unusedVariables false

def valL : List UInt8 → Nat
  | a :: b :: c :: d :: _ => a.toNat + b.toNat * 256 + c.toNat * 65536 + d.toNat * 16777216
  | _ => 0
theorem val_le (n : Nat) (h : n < 4294967296) (r : List UInt8) : valL (leL n ++ r) = n := by
  show (UInt8.ofNat n).toNat + (UInt8.ofNat (n / 256)).toNat * 256 + (UInt8.ofNat (n / 65536)).toNat * 65536 + (UInt8.ofNat (n / 16777216)).toNat * 16777216 = n
  simp only [UInt8.toNat_ofNat', Nat.reducePow]
  omega
theorem le_inj {n m : Nat} (hn : n < 4294967296) (hm : m < 4294967296) (h : leL n = leL m) : n = m := by
  have h1 := val_le n hn []
  rw [h, val_le m hm []] at h1
  exact h1.symm
def segL : List UInt8 := [115, 101, 103, 45]
def digL (n : Nat) : List UInt8 := [UInt8.ofNat (48 + n / 10000000 % 10), UInt8.ofNat (48 + n / 1000000 % 10), UInt8.ofNat (48 + n / 100000 % 10), UInt8.ofNat (48 + n / 10000 % 10), UInt8.ofNat (48 + n / 1000 % 10), UInt8.ofNat (48 + n / 100 % 10), UInt8.ofNat (48 + n / 10 % 10), UInt8.ofNat (48 + n % 10)]
def wname (n : Nat) : ByteArray := textOf (segL ++ digL n)
/-- what digits come to behind a number; none: one is no digit -/
def wgo : Nat → List UInt8 → Option Nat
  | n, [] => some n
  | n, c :: r => if c.toNat < 48 ∨ 57 < c.toNat then none else wgo (10 * n + (c.toNat - 48)) r
def wnum (s : ByteArray) : Option Nat := if s.data.toList.length = 12 ∧ s.data.toList.take 4 = segL then wgo 0 (s.data.toList.drop 4) else none
theorem wgo_dig (n k : Nat) (r : List UInt8) (hk : k ≤ 9) : wgo n (UInt8.ofNat (48 + k) :: r) = wgo (10 * n + k) r := by
  have e : (UInt8.ofNat (48 + k)).toNat = 48 + k := by
    rw [UInt8.toNat_ofNat']
    omega
  show (if (UInt8.ofNat (48 + k)).toNat < 48 ∨ 57 < (UInt8.ofNat (48 + k)).toNat then none else wgo (10 * n + ((UInt8.ofNat (48 + k)).toNat - 48)) r) = _
  rw [e, if_neg (by omega), Nat.add_sub_cancel_left]
theorem wnum_name (n : Nat) (h : n < 100000000) : wnum (wname n) = some n := by
  have e : (wname n).data.toList = segL ++ digL n := by
    show (segL ++ digL n).toArray.toList = _
    simp
  unfold wnum
  rw [e, if_pos ⟨rfl, rfl⟩]
  show wgo 0 (digL n) = some n
  unfold digL
  rw [wgo_dig _ _ _ (by omega), wgo_dig _ _ _ (by omega), wgo_dig _ _ _ (by omega), wgo_dig _ _ _ (by omega), wgo_dig _ _ _ (by omega), wgo_dig _ _ _ (by omega), wgo_dig _ _ _ (by omega), wgo_dig _ _ _ (by omega)]
  show some _ = some n
  congr 1
  omega
theorem wname_inj {n m : Nat} (hn : n < 100000000) (hm : m < 100000000) (h : wname n = wname m) : n = m := by
  have h1 := wnum_name n hn
  rw [h, wnum_name m hm] at h1
  injection h1 with h1
  exact h1.symm
theorem wname_size (n : Nat) : (wname n).size = 12 := rfl
end Go.Proofs.YtaeklleogniimaaGreatDoor
namespace Go.Proofs.YtaeklleogniimaaGreatDoor
open Go Go.RowKit
set_option linter.unusedVariables false

def joinT (a b : ByteArray) : ByteArray := textOf (a.data.toList ++ b.data.toList)
theorem textOf_list (l : List UInt8) : (textOf l).data.toList = l := by
  show l.toArray.toList = l
  simp
theorem list_textOf (s : ByteArray) : textOf s.data.toList = s := by unfold textOf; rw [Array.toArray_toList]
theorem list_inj {a b : ByteArray} (h : a.data.toList = b.data.toList) : a = b := by rw [← list_textOf a, h, list_textOf]
theorem joinT_inj {a b c : ByteArray} (h : joinT a b = joinT a c) : b = c := by
  have h1 := congrArg (fun t => t.data.toList) h
  simp only [joinT, textOf_list] at h1
  exact list_inj (List.append_cancel_left h1)
theorem joinT_append (a b : ByteArray) : joinT a b = a ++ b := list_inj (by
  unfold joinT
  rw [textOf_list, ByteArray.data_append, Array.toList_append])
/-- a record's bytes behind a record of a mark -/
def recL (B : List ByteArray) (last s : ByteArray) : List UInt8 := leL s.size ++ ((markOf B (joinT last s)).data.toList ++ s.data.toList)
theorem size_list (s : ByteArray) : s.data.toList.length = s.size := by simp
theorem recL_length (B : List ByteArray) (last s : ByteArray) : (recL B last s).length = 36 + s.size := by
  unfold recL
  rw [List.length_append, List.length_append, size_list, size_list]
  unfold markOf
  rw [numb_size]
  show 4 + _ = _
  omega
/-- the record that stands at the head of some bytes; none: none does -/
def nextP (B : List ByteArray) (last : ByteArray) (l : List UInt8) : Option (ByteArray × ByteArray) :=
  if l.length < 36 then none
  else if valL l < 1 ∨ 1048833 < valL l ∨ l.length - 36 < valL l then none
  else if known B (joinT last (textOf ((l.drop 36).take (valL l)))) = true ∧ markOf B (joinT last (textOf ((l.drop 36).take (valL l)))) = textOf ((l.drop 4).take 32)
    then some (textOf ((l.drop 36).take (valL l)), textOf ((l.drop 4).take 32)) else none
theorem next_rec {B : List ByteArray} {last s : ByteArray} (r : List UInt8) (h1 : 1 ≤ s.size) (h2 : s.size ≤ 1048833) (hB : joinT last s ∈ B) : nextP B last (recL B last s ++ r) = some (s, markOf B (joinT last s)) := by
  have hv : valL (recL B last s ++ r) = s.size := by
    unfold recL
    rw [List.append_assoc]
    exact val_le s.size (by omega) _
  have hm : (markOf B (joinT last s)).data.toList.length = 32 := by rw [size_list]; exact numb_size _
  have e4 : ((recL B last s ++ r).drop 4).take 32 = (markOf B (joinT last s)).data.toList := by
    unfold recL
    rw [List.append_assoc, List.append_assoc]
    show ((markOf B (joinT last s)).data.toList ++ (s.data.toList ++ r)).take 32 = _
    rw [← hm, List.take_left']
    rfl
  have e36 : ((recL B last s ++ r).drop 36).take s.size = s.data.toList := by
    have e : recL B last s ++ r = (leL s.size ++ (markOf B (joinT last s)).data.toList) ++ (s.data.toList ++ r) := by
      unfold recL
      simp only [List.append_assoc]
    have hl : (leL s.size ++ (markOf B (joinT last s)).data.toList).length = 36 := by
      rw [List.length_append, hm]
      rfl
    rw [e, ← hl, List.drop_left', ← size_list s, List.take_left']
    · rfl
    · rfl
  have hl := recL_length B last s
  unfold nextP
  rw [hv, e4, e36, list_textOf, list_textOf, if_neg (by rw [List.length_append]; omega), if_neg (by rw [List.length_append]; omega), if_pos ⟨known_iff.2 hB, rfl⟩]
theorem le_val : ∀ (l : List UInt8), 4 ≤ l.length → leL (valL l) = l.take 4
  | a :: b :: c :: d :: r, _ => by
    have ha := a.toNat_lt
    have hb := b.toNat_lt
    have hc := c.toNat_lt
    have hd := d.toNat_lt
    have key : ∀ (x : UInt8) (n : Nat), n % 256 = x.toNat → UInt8.ofNat n = x := fun x n h => by
      apply UInt8.toNat.inj
      rw [UInt8.toNat_ofNat']
      exact h
    show [UInt8.ofNat _, UInt8.ofNat _, UInt8.ofNat _, UInt8.ofNat _] = [a, b, c, d]
    rw [key a _ (by show (a.toNat + b.toNat * 256 + c.toNat * 65536 + d.toNat * 16777216) % 256 = _; omega), key b _ (by show ((a.toNat + b.toNat * 256 + c.toNat * 65536 + d.toNat * 16777216) / 256) % 256 = _; omega), key c _ (by show ((a.toNat + b.toNat * 256 + c.toNat * 65536 + d.toNat * 16777216) / 65536) % 256 = _; omega), key d _ (by show ((a.toNat + b.toNat * 256 + c.toNat * 65536 + d.toNat * 16777216) / 16777216) % 256 = _; omega)]
theorem next_sound {B : List ByteArray} {last s m : ByteArray} {l : List UInt8} (h : nextP B last l = some (s, m)) : joinT last s ∈ B ∧ m = markOf B (joinT last s) ∧ 1 ≤ s.size ∧ s.size ≤ 1048833 ∧ ∃ r, l = recL B last s ++ r := by
  unfold nextP at h
  split at h
  · cases h
  · rename_i h36
    split at h
    · cases h
    · rename_i hn
      split at h
      · rename_i hk
        injection h with h
        injection h with hs hm
        have hsz : s.size = valL l := by
          rw [← hs, ← size_list, textOf_list, List.length_take, List.length_drop]
          omega
        rw [hs] at hk
        refine ⟨known_iff.1 hk.1, hm.symm.trans hk.2.symm, by omega, by omega, (l.drop 36).drop (valL l), ?_⟩
        unfold recL
        rw [hk.2, textOf_list, hsz, le_val l (by omega), ← hs, textOf_list]
        have e1 : (l.drop 4).drop 32 = l.drop 36 := by rw [List.drop_drop]
        rw [List.append_assoc, List.append_assoc, List.take_append_drop, ← e1, List.take_append_drop, List.take_append_drop]
      · cases h
/-- the bytes of records one behind the other -/
def chainL (B : List ByteArray) : ByteArray → List ByteArray → List UInt8
  | _, [] => []
  | last, s :: r => recL B last s ++ chainL B (markOf B (joinT last s)) r
def lastM (B : List ByteArray) : ByteArray → List ByteArray → ByteArray
  | last, [] => last
  | last, s :: r => lastM B (markOf B (joinT last s)) r
def ChainIn (B : List ByteArray) : ByteArray → List ByteArray → Prop
  | _, [] => True
  | last, s :: r => joinT last s ∈ B ∧ 1 ≤ s.size ∧ s.size ≤ 1048833 ∧ ChainIn B (markOf B (joinT last s)) r
/-- all records at the head of some bytes; the fuel: how many at most -/
def readL (B : List ByteArray) : Nat → ByteArray → List UInt8 → List ByteArray
  | 0, _, _ => []
  | f + 1, last, l => match nextP B last l with
    | none => []
    | some (s, m) => s :: readL B f m (l.drop (36 + s.size))
theorem readL_none {B : List ByteArray} {last : ByteArray} {l : List UInt8} (f : Nat) (h : nextP B last l = none) : readL B (f + 1) last l = [] := by
  unfold readL
  rw [h]
theorem readL_some {B : List ByteArray} {last s m : ByteArray} {l : List UInt8} (f : Nat) (h : nextP B last l = some (s, m)) : readL B (f + 1) last l = s :: readL B f m (l.drop (36 + s.size)) := by
  conv => lhs; unfold readL
  rw [h]
theorem read_chain {B : List ByteArray} (c : List ByteArray) : ∀ (f : Nat) (last : ByteArray) (r : List UInt8), ChainIn B last c → c.length < f → nextP B (lastM B last c) r = none → readL B f last (chainL B last c ++ r) = c := by
  induction c with
  | nil =>
    intro f last r _ hf hn
    obtain ⟨g, rfl⟩ : ∃ g, f = g + 1 := ⟨f - 1, by simp at hf; omega⟩
    exact readL_none g hn
  | cons s c ih =>
    intro f last r hc hf hn
    obtain ⟨h1, h2, h3, h4⟩ := hc
    obtain ⟨g, rfl⟩ : ∃ g, f = g + 1 := ⟨f - 1, by simp at hf; omega⟩
    have e : chainL B last (s :: c) ++ r = recL B last s ++ (chainL B (markOf B (joinT last s)) c ++ r) := List.append_assoc _ _ _
    rw [e, readL_some g (next_rec _ h2 h3 h1), ← recL_length B last s, List.drop_left, ih g _ r h4 (by simp at hf; omega) hn]
theorem read_sound {B : List ByteArray} (f : Nat) : ∀ (last : ByteArray) (l : List UInt8), ChainIn B last (readL B f last l) ∧ ∃ r, l = chainL B last (readL B f last l) ++ r := by
  induction f with
  | zero => exact fun _ l => ⟨trivial, l, rfl⟩
  | succ f ih =>
    intro last l
    cases hn : nextP B last l with
    | none =>
      rw [readL_none f hn]
      exact ⟨trivial, l, rfl⟩
    | some x =>
      obtain ⟨s, m⟩ := x
      rw [readL_some f hn]
      obtain ⟨h1, h0, h2, h3, r, hr⟩ := next_sound hn
      subst h0
      obtain ⟨k1, r2, k2⟩ := ih (markOf B (joinT last s)) (l.drop (36 + s.size))
      refine ⟨⟨h1, h2, h3, k1⟩, r2, ?_⟩
      have e : chainL B last (s :: readL B f (markOf B (joinT last s)) (l.drop (36 + s.size))) ++ r2 = recL B last s ++ (chainL B (markOf B (joinT last s)) (readL B f (markOf B (joinT last s)) (l.drop (36 + s.size))) ++ r2) := List.append_assoc _ _ _
      rw [e, ← k2]
      have hl := recL_length B last s
      have hd : l.drop (36 + s.size) = r := by rw [hr, ← hl, List.drop_left]
      rw [hd]
      exact hr
/-- two chains from one mark that fit the same bytes: the shorter one begins the longer one -/
theorem chain_prefix {B : List ByteArray} (a : List ByteArray) : ∀ (b : List ByteArray) (last : ByteArray) (x y : List UInt8), ChainIn B last a → ChainIn B last b → chainL B last a ++ x = chainL B last b ++ y → a <+: b ∨ b <+: a := by
  induction a with
  | nil => exact fun b _ _ _ _ _ _ => Or.inl (List.nil_prefix)
  | cons s a ih =>
    intro b last x y ha hb h
    cases b with
    | nil => exact Or.inr (List.nil_prefix)
    | cons t b =>
      obtain ⟨p1, p2, p3, p4⟩ := ha
      obtain ⟨q1, q2, q3, q4⟩ := hb
      have e1 : chainL B last (s :: a) ++ x = recL B last s ++ (chainL B (markOf B (joinT last s)) a ++ x) := List.append_assoc _ _ _
      have e2 : chainL B last (t :: b) ++ y = recL B last t ++ (chainL B (markOf B (joinT last t)) b ++ y) := List.append_assoc _ _ _
      rw [e1, e2] at h
      have n1 := next_rec (chainL B (markOf B (joinT last s)) a ++ x) p2 p3 p1
      rw [h, next_rec _ q2 q3 q1] at n1
      injection n1 with n1
      injection n1 with n1 _
      subst n1
      have h2 := List.append_cancel_left h
      rcases ih b _ x y p4 q4 h2 with h3 | h3
      · exact Or.inl (List.cons_prefix_cons.2 ⟨rfl, h3⟩)
      · exact Or.inr (List.cons_prefix_cons.2 ⟨rfl, h3⟩)
end Go.Proofs.YtaeklleogniimaaGreatDoor
namespace Go.Proofs.YtaeklleogniimaaGreatDoor
open Go Go.RowKit
set_option linter.unusedVariables false

theorem rec_len_at {B : List ByteArray} {last s : ByteArray} (r : List UInt8) {j : Nat} (hj : j < 4) : (recL B last s ++ r)[j]? = (leL s.size)[j]? := by
  unfold recL
  rw [List.append_assoc, List.getElem?_append_left hj]
theorem rec_mark_at {B : List ByteArray} {last s : ByteArray} (r : List UInt8) {j : Nat} (hj : j < 32) : (recL B last s ++ r)[4 + j]? = (markOf B (joinT last s)).data.toList[j]? := by
  have hm : (markOf B (joinT last s)).data.toList.length = 32 := by rw [size_list]; exact numb_size _
  have hl : (leL s.size).length = 4 := rfl
  unfold recL
  rw [List.append_assoc, List.getElem?_append_right (by omega), hl, Nat.add_sub_cancel_left, List.append_assoc, List.getElem?_append_left (by omega)]
theorem rec_text_at {B : List ByteArray} {last s : ByteArray} (r : List UInt8) {j : Nat} (hj : j < s.size) : (recL B last s ++ r)[36 + j]? = s.data.toList[j]? := by
  have hm : (markOf B (joinT last s)).data.toList.length = 32 := by rw [size_list]; exact numb_size _
  have hl : (leL s.size).length = 4 := rfl
  have hz := size_list s
  unfold recL
  rw [List.append_assoc, List.getElem?_append_right (by omega), hl, show 36 + j - 4 = 32 + j by omega, List.append_assoc, List.getElem?_append_right (by omega), hm, Nat.add_sub_cancel_left, List.getElem?_append_left (by omega)]
/-- two records that differ in one byte at most are one -/
theorem rec_near {B : List ByteArray} {last s t : ByteArray} {x y : List UInt8} (i : Nat) (hB : B.length ≤ 1000000000) (hs : joinT last s ∈ B) (ht : joinT last t ∈ B) (h1 : s.size ≤ 1048833) (h2 : t.size ≤ 1048833)
    (h : ∀ j, j ≠ i → (recL B last s ++ x)[j]? = (recL B last t ++ y)[j]?) : s = t := by
  by_cases hi : 4 ≤ i ∧ i < 36
  · have hz : s.size = t.size := by
      refine le_inj (by omega) (by omega) (List.ext_getElem? fun j => ?_)
      by_cases hj : j < 4
      · have := h j (by omega)
        rw [rec_len_at x hj, rec_len_at y hj] at this
        exact this
      · rw [List.getElem?_eq_none (by show 4 ≤ j; omega), List.getElem?_eq_none (by show 4 ≤ j; omega)]
    refine list_inj (List.ext_getElem? fun j => ?_)
    by_cases hj : j < s.size
    · have := h (36 + j) (by omega)
      rw [rec_text_at x hj, rec_text_at y (by omega)] at this
      exact this
    · rw [List.getElem?_eq_none (by rw [size_list]; omega), List.getElem?_eq_none (by rw [size_list]; omega)]
  · refine joinT_inj (mark_inj hs ht hB (list_inj (List.ext_getElem? fun j => ?_)))
    by_cases hj : j < 32
    · have := h (4 + j) (by omega)
      rw [rec_mark_at x hj, rec_mark_at y hj] at this
      exact this
    · rw [List.getElem?_eq_none (by rw [size_list]; unfold markOf; rw [numb_size]; omega), List.getElem?_eq_none (by rw [size_list]; unfold markOf; rw [numb_size]; omega)]
theorem set_far (l : List UInt8) (i : Nat) (v : UInt8) (h : l.length ≤ i) : l.set i v = l := List.set_eq_of_length_le h
theorem next_nil (B : List ByteArray) (last : ByteArray) : nextP B last [] = none := by
  unfold nextP
  rw [if_pos (by decide)]
theorem spoil_begins {B : List ByteArray} (hB : B.length ≤ 1000000000) (c : List ByteArray) : ∀ (f : Nat) (last : ByteArray) (i : Nat) (v : UInt8), ChainIn B last c → readL B f last ((chainL B last c).set i v) <+: c := by
  induction c with
  | nil =>
    intro f last i v _
    have e : (chainL B last []).set i v = [] := rfl
    rw [e]
    cases f with
    | zero => exact List.nil_prefix
    | succ f => rw [readL_none f (next_nil B last)]; exact List.nil_prefix
  | cons s c ih =>
    intro f last i v hc
    obtain ⟨h1, h2, h3, h4⟩ := hc
    cases f with
    | zero => exact List.nil_prefix
    | succ f =>
      have e : chainL B last (s :: c) = recL B last s ++ chainL B (markOf B (joinT last s)) c := rfl
      have hl := recL_length B last s
      cases hn : nextP B last ((chainL B last (s :: c)).set i v) with
      | none => rw [readL_none f hn]; exact List.nil_prefix
      | some p =>
        obtain ⟨t, m⟩ := p
        rw [readL_some f hn]
        obtain ⟨k1, k0, k2, k3, r, hr⟩ := next_sound hn
        have hst : t = s := by
          refine rec_near (x := r) (y := chainL B (markOf B (joinT last s)) c) i hB k1 h1 k3 h3 (fun j hj => ?_)
          rw [← hr, ← e, List.getElem?_set_ne (fun h => hj h.symm)]
        subst hst
        subst k0
        refine List.cons_prefix_cons.2 ⟨rfl, ?_⟩
        have hd : ((chainL B last (t :: c)).set i v).drop (36 + t.size) = (chainL B (markOf B (joinT last t)) c).set (if i < 36 + t.size then (chainL B (markOf B (joinT last t)) c).length else i - (36 + t.size)) v := by
          rw [e]
          by_cases hi : i < 36 + t.size
          · rw [if_pos hi, set_far _ _ _ (Nat.le_refl _), List.drop_set_of_lt hi, ← hl, List.drop_left]
          · rw [if_neg hi, List.set_append_right _ _ (by omega), ← hl, List.drop_left' (by rfl)]
        rw [hd]
        exact ih f _ _ v h4
/-- the book grows: what was marked keeps its mark -/
theorem markOf_seen {B : List ByteArray} {s : ByteArray} (t : ByteArray) (h : s ∈ B) : markOf (seen B t) s = markOf B s := by
  unfold markOf
  rw [(seen_old t h).2]
theorem recL_seen {B : List ByteArray} {last s : ByteArray} (t : ByteArray) (h : joinT last s ∈ B) : recL (seen B t) last s = recL B last s := by
  unfold recL
  rw [markOf_seen t h]
theorem chain_seen {B : List ByteArray} (t : ByteArray) (c : List ByteArray) : ∀ (last : ByteArray), ChainIn B last c → ChainIn (seen B t) last c ∧ chainL (seen B t) last c = chainL B last c ∧ lastM (seen B t) last c = lastM B last c := by
  induction c with
  | nil => exact fun last _ => ⟨trivial, rfl, rfl⟩
  | cons s c ih =>
    intro last hc
    obtain ⟨h1, h2, h3, h4⟩ := hc
    have hm := markOf_seen t h1
    obtain ⟨k1, k2, k3⟩ := ih (markOf B (joinT last s)) h4
    refine ⟨⟨(seen_old t h1).1, h2, h3, by rw [hm]; exact k1⟩, ?_, ?_⟩
    · show recL (seen B t) last s ++ chainL (seen B t) (markOf (seen B t) (joinT last s)) c = _
      rw [hm, recL_seen t h1, k2]
      rfl
    · show lastM (seen B t) (markOf (seen B t) (joinT last s)) c = _
      rw [hm, k3]
      rfl
theorem chain_snoc {B : List ByteArray} {s : ByteArray} (c : List ByteArray) : ∀ (last : ByteArray), ChainIn B last c → joinT (lastM B last c) s ∈ B → 1 ≤ s.size → s.size ≤ 1048833 →
    ChainIn B last (c ++ [s]) ∧ chainL B last (c ++ [s]) = chainL B last c ++ recL B (lastM B last c) s ∧ lastM B last (c ++ [s]) = markOf B (joinT (lastM B last c) s) := by
  induction c with
  | nil => exact fun last _ h1 h2 h3 => ⟨⟨h1, h2, h3, trivial⟩, List.append_nil _, rfl⟩
  | cons u c ih =>
    intro last hc h1 h2 h3
    obtain ⟨k1, k2, k3, k4⟩ := hc
    obtain ⟨e1, e2, e3⟩ := ih (markOf B (joinT last u)) k4 h1 h2 h3
    refine ⟨⟨k1, k2, k3, e1⟩, ?_, e3⟩
    show recL B last u ++ chainL B (markOf B (joinT last u)) (c ++ [s]) = (recL B last u ++ chainL B (markOf B (joinT last u)) c) ++ _
    rw [e2, List.append_assoc]
    rfl
end Go.Proofs.YtaeklleogniimaaGreatDoor
