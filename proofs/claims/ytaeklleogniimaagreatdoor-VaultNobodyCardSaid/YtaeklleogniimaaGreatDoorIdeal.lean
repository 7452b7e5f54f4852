/- An ideal book in memory, with what it has marked. Conditions: the sizes. -/
import Derived.Test.YtaeklleogniimaaGreatDoorKit
import Derived.Maps.OwnSet
import Derived.Test.YtaeklleogniimaaGreatDoorBook
namespace Go.Proofs.YtaeklleogniimaaGreatDoor
open Go Go.RowKit
set_option linter.unusedVariables false

def pos : List ByteArray → ByteArray → Nat
  | [], _ => 0
  | x :: r, s => if x = s then 0 else pos r s + 1
theorem pos_lt : ∀ {B : List ByteArray} {s : ByteArray}, s ∈ B → pos B s < B.length
  | x :: r, s, h => by
    unfold pos
    by_cases e : x = s
    · rw [if_pos e]; exact Nat.succ_pos _
    · rw [if_neg e]
      have := pos_lt (B := r) (s := s) ((List.mem_cons.1 h).resolve_left (fun h => e h.symm))
      exact Nat.succ_lt_succ this
theorem pos_at : ∀ {B : List ByteArray} {s : ByteArray}, s ∈ B → B[pos B s]? = some s
  | x :: r, s, h => by
    unfold pos
    by_cases e : x = s
    · rw [if_pos e, e]; rfl
    · rw [if_neg e]
      exact pos_at (B := r) (s := s) ((List.mem_cons.1 h).resolve_left (fun h => e h.symm))
theorem pos_inj {B : List ByteArray} {s t : ByteArray} (hs : s ∈ B) (ht : t ∈ B) (h : pos B s = pos B t) : s = t := by
  have h1 := pos_at hs
  rw [h, pos_at ht] at h1
  injection h1 with h1
  exact h1.symm
theorem pos_append : ∀ {B : List ByteArray} {s : ByteArray} (l : List ByteArray), s ∈ B → pos (B ++ l) s = pos B s
  | x :: r, s, l, h => by
    show (if x = s then 0 else pos (r ++ l) s + 1) = if x = s then 0 else pos r s + 1
    by_cases e : x = s
    · rw [if_pos e, if_pos e]
    · rw [if_neg e, if_neg e, pos_append (B := r) (s := s) l ((List.mem_cons.1 h).resolve_left (fun h => e h.symm))]
theorem pos_new : ∀ {B : List ByteArray} {s : ByteArray}, s ∉ B → pos (B ++ [s]) s = B.length
  | [], s, h => by show (if s = s then 0 else _) = 0; rw [if_pos rfl]
  | x :: r, s, h => by
    show (if x = s then 0 else pos (r ++ [s]) s + 1) = r.length + 1
    rw [if_neg (fun e => h (List.mem_cons.2 (Or.inl e.symm))), pos_new (B := r) (fun hr => h (List.mem_cons.2 (Or.inr hr)))]
def known (B : List ByteArray) (s : ByteArray) : Bool := B.any fun x => decide (x = s)
theorem known_iff {B : List ByteArray} {s : ByteArray} : known B s = true ↔ s ∈ B := by simp [known]
theorem known_not {B : List ByteArray} {s : ByteArray} (h : s ∉ B) : known B s = false := by
  cases e : known B s with
  | false => rfl
  | true => exact absurd (known_iff.1 e) h
/-- a book that has marked a text -/
def seen (B : List ByteArray) (s : ByteArray) : List ByteArray := if known B s = true then B else B ++ [s]
theorem seen_mem (B : List ByteArray) (s : ByteArray) : s ∈ seen B s := by
  unfold seen
  by_cases h : s ∈ B
  · rw [if_pos (known_iff.2 h)]; exact h
  · rw [if_neg (fun e => h (known_iff.1 e))]; exact List.mem_append.2 (Or.inr (List.mem_cons.2 (Or.inl rfl)))
theorem seen_old {B : List ByteArray} {t : ByteArray} (s : ByteArray) (h : t ∈ B) : t ∈ seen B s ∧ pos (seen B s) t = pos B t := by
  unfold seen
  by_cases hs : s ∈ B
  · rw [if_pos (known_iff.2 hs)]; exact ⟨h, rfl⟩
  · rw [if_neg (fun e => hs (known_iff.1 e))]; exact ⟨List.mem_append.2 (Or.inl h), pos_append _ h⟩
def keyL (s : ByteArray) : Lit := .string s.data.toList
theorem keyL_inj {s t : ByteArray} (h : keyL s = keyL t) : s = t := by
  unfold keyL at h
  injection h with h
  have h2 : s.data = t.data := Array.toList_inj.1 h
  cases s
  cases t
  exact congrArg ByteArray.mk h2
theorem keyL_lit {s : ByteArray} : WideAt.IsKeyLit (keyL s) := by unfold keyL WideAt.IsKeyLit; trivial
structure BookD (D : DataW Unit) (B : List ByteArray) : Prop where
  isMap : Maps.IsMap D
  has : ∀ s, Maps.has D (keyL s) = known B s
  at_ : ∀ s z, s ∈ B → D.atKey (keyL s) z = .lit (.int .i64 ((pos B s : Nat) + 1))
  size : Maps.size D = B.length
theorem BookD.nil : BookD (.map []) [] := ⟨⟨[], rfl⟩, fun s => rfl, fun s z h => (by cases h), rfl⟩
theorem BookD.add {D : DataW Unit} {B : List ByteArray} {s : ByteArray} (h : BookD D B) (ht : Maps.Tidy D) (hs : s ∉ B) : BookD (D.put (keyL s) (.lit (.int .i64 ((B.length : Nat) + 1)))) (B ++ [s]) := by
  refine ⟨h.isMap.put _ _, fun t => ?_, fun t z hm => ?_, ?_⟩
  · by_cases e : t = s
    · subst e
      rw [Maps.has_put_same h.isMap keyL_lit]
      exact (known_iff.2 (List.mem_append.2 (Or.inr (List.mem_cons.2 (Or.inl rfl))))).symm
    · rw [Maps.has_put_other (fun h => e (keyL_inj h)), h.has]
      unfold known
      rw [List.any_append]
      simp only [List.any_cons, List.any_nil, Bool.or_false, decide_eq_false (fun h : s = t => e h.symm)]
  · by_cases e : t = s
    · subst e
      rw [Maps.atKey_put_same h.isMap keyL_lit, pos_new hs]
    · have hB : t ∈ B := (List.mem_append.1 hm).elim id (fun h => absurd (List.mem_singleton.1 h) e)
      rw [Maps.atKey_put_other (fun h => e (keyL_inj h)), h.at_ t z hB, pos_append _ hB]
  · have hh : Maps.has D (keyL s) = false := by rw [h.has]; exact known_not hs
    rw [Maps.size_put ht, hh, h.size]
    simp
/-- a number as a mark: eight bytes of it, the rest noughts -/
def numL (n : Nat) : List UInt8 := (List.range 32).map fun i => if i ≤ 7 then UInt8.ofNat (n / 256 ^ i) else 0
def numb (n : Nat) : ByteArray := ⟨(numL n).toArray⟩
theorem numL_length (n : Nat) : (numL n).length = 32 := by unfold numL; rw [List.length_map, List.length_range]
theorem numb_size (n : Nat) : (numb n).size = 32 := by
  show (numL n).toArray.size = 32
  rw [List.size_toArray, numL_length]
theorem numL_at (n i : Nat) (hi : i ≤ 7) : (numL n)[i]? = some (UInt8.ofNat (n / 256 ^ i)) := by
  unfold numL
  rw [List.getElem?_map, List.getElem?_range (by omega)]
  show some (if i ≤ 7 then _ else _) = _
  rw [if_pos hi]
theorem numb_inj {n m : Nat} (hn : n < 18446744073709551616) (hm : m < 18446744073709551616) (h : numb n = numb m) : n = m := by
  have hl : numL n = numL m := by
    unfold numb at h
    injection h with h
    simpa using h
  have key : ∀ i, i ≤ 7 → n / 256 ^ i % 256 = m / 256 ^ i % 256 := fun i hi => by
    have h1 := numL_at n i hi
    rw [hl, numL_at m i hi] at h1
    injection h1 with h1
    have h2 := congrArg UInt8.toNat h1
    rw [UInt8.toNat_ofNat', UInt8.toNat_ofNat'] at h2
    exact h2.symm
  have k0 := key 0 (by omega)
  have k1 := key 1 (by omega)
  have k2 := key 2 (by omega)
  have k3 := key 3 (by omega)
  have k4 := key 4 (by omega)
  have k5 := key 5 (by omega)
  have k6 := key 6 (by omega)
  have k7 := key 7 (by omega)
  simp only [Nat.reducePow, Nat.div_one] at k0 k1 k2 k3 k4 k5 k6 k7
  omega
/-- a text's mark in a book that has it -/
def markOf (B : List ByteArray) (s : ByteArray) : ByteArray := numb (pos B s + 1)
theorem mark_inj {B : List ByteArray} {s t : ByteArray} (hs : s ∈ B) (ht : t ∈ B) (hB : B.length ≤ 1000000000) (h : markOf B s = markOf B t) : s = t := by
  have h1 := pos_lt hs
  have h2 := pos_lt ht
  exact pos_inj hs ht (Nat.succ.inj (numb_inj (by omega) (by omega) h))
/-- a number as four bytes -/
def leL (n : Nat) : List UInt8 := [UInt8.ofNat n, UInt8.ofNat (n / 256), UInt8.ofNat (n / 65536), UInt8.ofNat (n / 16777216)]
end Go.Proofs.YtaeklleogniimaaGreatDoor
namespace Go.Proofs.YtaeklleogniimaaGreatDoor
open Go Go.RowKit Go.WideMaps Go.Maps
set_option linter.unusedVariables false

structure BookIs (w : World) (k mb : Nat) (B : List ByteArray) : Prop where
  at_ : BookAt w k mb
  own : ∃ D : DataW Unit, w.ownsMap Tryz.prog 9 (plainElem Tryz.prog 3) mb B.length D ∧ BookD D B
theorem book_law : Keyed Tryz.prog 9 := string_keyed Tryz.underlying9
theorem book_zero (w : World) : (zeroValue 3).run Tryz.prog w = .ok (.int .i64 0) w := by kernel_rfl
theorem book_key {s : ByteArray} (h : s.size ≤ maxLen) : keyOf Tryz.prog 9 (.string s) = some (keyL s) := keyOf_string_mk Tryz.underlying9 h
theorem ideal_book (w : World) :
    Calls Tryz.prog 11 #[] w fun e w' => ∃ b m, e = .returned (.pointer (some ⟨b, 0, none⟩)) ∧ w.heap.size ≤ b ∧ w.heap.size ≤ m ∧ BookIs w' b m [] ∧ Below w.heap.size w w' := by
  refine (ideal_any w).mono ?_
  rintro e w' ⟨b, m, rfl, hb, hm, hk, hmap, hB⟩
  refine ⟨b, m, rfl, hb, hm, ⟨hk, .map [], ?_, BookD.nil⟩, hB⟩
  obtain ⟨es, clock, h1, h2, h3, h4⟩ := World.ownsMap_made w Tryz.prog 9 (plainElem (H := Unit) Tryz.prog 3)
  rw [heap_alloc_new] at h1
  injection h1 with h1
  injection h1 with h5 h6
  subst h5
  subst h6
  exact ⟨#[], 0, hmap, h2, h3, h4⟩
theorem BookIs.below {w w' : World} {k mb : Nat} {B : List ByteArray} (h : BookIs w k mb B) (hb : Below w.heap.size w w') : BookIs w' k mb B := by
  obtain ⟨D, h1, h2⟩ := h.own
  obtain ⟨es, clock, k1, k2, k3, k4⟩ := h1
  have hlt : mb < w.heap.size := World.ownsMap.lt ⟨es, clock, k1, k2, k3, k4⟩
  exact ⟨Blk.touch h.at_ (S := fun _ => False) ⟨hb.os, hb.tape, hb.output, hb.size, fun i hi _ => hb.block i hi⟩ id, D, ⟨es, clock, (hb.block mb hlt).trans k1, k2, k3, k4⟩, h2⟩
end Go.Proofs.YtaeklleogniimaaGreatDoor
