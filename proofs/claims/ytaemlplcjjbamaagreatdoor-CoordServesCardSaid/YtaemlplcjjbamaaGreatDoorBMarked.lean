/- The walk of code's reader's End. Condition: the size. The walks of sign's Block, fits, count, piece. Condition: the sizes. An ideal book in memory, with what it has marked. Conditions: the sizes. The walks of an ideal book's Mark (and Is). Conditions: the sizes. -/
import Derived.Test.YtaemlplcjjbamaaGreatDoorBKn
import Derived.Test.YtaemlplcjjbamaaGreatDoorBRoll
import Derived.Lib.MinMax
import Derived.Test.YtaemlplcjjbamaaGreatDoorBHeld
import Derived.Maps.OwnSet
import Derived.Test.YtaemlplcjjbamaaGreatDoorBTick
namespace Go.Proofs.YtaemlplcjjbamaaGreatDoor
open Go Go.RowKit
set_option linter.unusedVariables false
theorem ba_slice (S : List UInt8) (a b : Nat) : (ba S).extract a b = ba ((S.drop a).take (b - a)) := by
  apply ByteArray.ext
  apply Array.toList_inj.1
  rw [ByteArray.data_extract]
  simp [ba]
end Go.Proofs.YtaemlplcjjbamaaGreatDoor
namespace Go.Proofs.YtaemlplcjjbamaaGreatDoor
open Go Go.RowKit
set_option linter.unusedVariables false
end Go.Proofs.YtaemlplcjjbamaaGreatDoor
namespace Go.Proofs.YtaemlplcjjbamaaGreatDoor
open Go Go.RowKit
set_option linter.unusedVariables false
set_option maxRecDepth 100000 in
theorem signBlock_any (n : Int) (w : World) :
    Calls Tryz.prog 128 #[.int .i64 n] w fun e w' => (∃ b : Nat, e = .returned (.int .i64 (b : Int)) ∧ 16 ≤ b ∧ b ≤ 1024) ∧ w = w' := by
  go_enter Tryz.func128, Tryz.ntmps128
  go_wp2
  go_loopw [3] (fun bv wr => ∃ b : Nat, bv = .int .i64 (b : Int) ∧ (b = 16 ∨ b = 32 ∨ b = 64 ∨ b = 128 ∨ b = 256 ∨ b = 512 ∨ b = 1024) ∧ w = wr) (fun bv _ => 1024 - (intOf bv).toNat)
  case atStart => exact ⟨16, rfl, Or.inl rfl, rfl⟩
  case round =>
    obtain ⟨b, rfl, h, rfl⟩ := hrel
    rcases h with rfl | rfl | rfl | rfl | rfl | rfl | rfl
    all_goals go_wp2
    all_goals first
      | (go_ret; exact ⟨⟨_, rfl, by decide, by decide⟩, rfl⟩)
      | (go_roundw
         case rel => exact ⟨_, rfl, by decide, trivial⟩
         case measure => decide)
theorem signFits_any (n : Nat) (w : World) (h1 : 16 ≤ n) (h2 : n ≤ 1024) :
    Calls Tryz.prog 170 #[.int .i64 (n : Int)] w fun e w' => e = .returned (.bool true) ∧ w = w' := by
  go_enter Tryz.func170, Tryz.ntmps170
  go_wp2
  go_ret
  exact ⟨ret_bool (by simp; omega), rfl⟩
def npc (size block : Nat) : Nat := (size + block - 1) / block
theorem signCount_any (size block : Nat) (w : World) (h1 : 1 ≤ block) (h2 : block ≤ 1024) (hs : size ≤ 1048576) :
    Calls Tryz.prog 171 #[.int .i64 (size : Int), .int .i64 (block : Int)] w fun e w' => e = .returned (.int .i64 (npc size block : Nat)) ∧ w = w' := by
  go_enter Tryz.func171, Tryz.ntmps171
  go_wp2
  go_ret
  refine ⟨ret_int ?_, rfl⟩
  unfold npc
  rw [Int.natCast_ediv]
  show ((size : Int) + (block : Int) - 1) / (block : Int) = _
  congr 1
  omega
theorem min_cast {q n m : Nat} (h : m = min q n) : min (q : Int) (n : Int) = (m : Int) := by
  rw [h, Int.min_def, Nat.min_def]
  by_cases hc : q ≤ n
  · rw [if_pos hc, if_pos (by omega)]
  · rw [if_neg hc, if_neg (by omega)]
theorem mul_cast {i b p : Nat} (h : p = i * b) : (i : Int) * (b : Int) = (p : Int) := by rw [h, Int.natCast_mul]
theorem mul_wrap {i b p : Nat} (h : p = i * b) (hp : p ≤ 1099511627776) : RowKit.wrap64 ((i : Int) * (b : Int)) = (p : Int) := by
  rw [mul_cast h]
  unfold RowKit.wrap64
  omega
theorem succ_wrap {i j : Nat} (h : j = i + 1) (hp : i ≤ 1099511627776) : RowKit.wrap64 ((i : Int) + 1) = (j : Int) := by
  unfold RowKit.wrap64
  omega
def pcB (S : List UInt8) (block i : Nat) : ByteArray := (ba S).extract (i * block) (min ((i + 1) * block) S.length)
theorem piece_any (S : List UInt8) (block i : Nat) (w : World) (hS : S.length ≤ 1048576) (h1 : 1 ≤ block) (h2 : block ≤ 1024) (hi : i * block ≤ S.length) :
    Calls Tryz.prog 172 #[.string (ba S), .int .i64 (i : Int), .int .i64 (block : Int)] w fun e w' => e = .returned (.string (pcB S block i)) ∧ w = w' := by
  have hsz := ba_size S
  have hi2 : i ≤ S.length := Nat.le_trans (Nat.le_mul_of_pos_right i (by omega)) hi
  obtain ⟨p, hp⟩ : ∃ p, p = i * block := ⟨_, rfl⟩
  obtain ⟨j, hj⟩ : ∃ j, j = i + 1 := ⟨_, rfl⟩
  obtain ⟨q, hq⟩ : ∃ q, q = j * block := ⟨_, rfl⟩
  obtain ⟨m, hm⟩ : ∃ m, m = min q S.length := ⟨_, rfl⟩
  have hqp : q = p + block := by rw [hq, hj, Nat.add_mul, Nat.one_mul, hp]
  have hpm : p ≤ m := by omega
  have hmS : m ≤ S.length := by omega
  have hqb : q ≤ 1099511627776 := by omega
  have HE := Lib.hid (show pcB S block i = (ba S).extract p m by unfold pcB; rw [← hj, ← hq, ← hp, ← hm])
  have w1 := succ_wrap hj (by omega)
  have w2 := mul_wrap hq hqb
  have w3 := mul_cast hp
  have w4 := min_cast hm
  clear hi hi2 hp hj hq hm hqp hqb
  go_enter Tryz.func172, Tryz.ntmps172
  go_wp2
  go_ret
  rw [HE.out]
  exact ⟨rfl, rfl⟩
end Go.Proofs.YtaemlplcjjbamaaGreatDoor
namespace Go.Proofs.YtaemlplcjjbamaaGreatDoor
open Go Go.RowKit
set_option linter.unusedVariables false
def pos : List ByteArray → ByteArray → Nat
  | [], _ => 0
  | x :: r, s => if x = s then 0 else pos r s + 1
theorem pos_lt : ∀ {B : List ByteArray} {s : ByteArray}, s ∈ B → pos B s < B.length
  | x :: r, s, h => by
    unfold pos
    by_cases e : x = s
    · rw [if_pos e]; exact Nat.succ_pos _
    · rw [if_neg e]
      have := pos_lt (B := r) (s := s) ((List.mem_cons.1 h).resolve_left (fun h => e h.symm))
      exact Nat.succ_lt_succ this
theorem pos_at : ∀ {B : List ByteArray} {s : ByteArray}, s ∈ B → B[pos B s]? = some s
  | x :: r, s, h => by
    unfold pos
    by_cases e : x = s
    · rw [if_pos e, e]; rfl
    · rw [if_neg e]
      exact pos_at (B := r) (s := s) ((List.mem_cons.1 h).resolve_left (fun h => e h.symm))
theorem pos_inj {B : List ByteArray} {s t : ByteArray} (hs : s ∈ B) (ht : t ∈ B) (h : pos B s = pos B t) : s = t := by
  have h1 := pos_at hs
  rw [h, pos_at ht] at h1
  injection h1 with h1
  exact h1.symm
theorem pos_append : ∀ {B : List ByteArray} {s : ByteArray} (l : List ByteArray), s ∈ B → pos (B ++ l) s = pos B s
  | x :: r, s, l, h => by
    show (if x = s then 0 else pos (r ++ l) s + 1) = if x = s then 0 else pos r s + 1
    by_cases e : x = s
    · rw [if_pos e, if_pos e]
    · rw [if_neg e, if_neg e, pos_append (B := r) (s := s) l ((List.mem_cons.1 h).resolve_left (fun h => e h.symm))]
theorem pos_new : ∀ {B : List ByteArray} {s : ByteArray}, s ∉ B → pos (B ++ [s]) s = B.length
  | [], s, h => by show (if s = s then 0 else _) = 0; rw [if_pos rfl]
  | x :: r, s, h => by
    show (if x = s then 0 else pos (r ++ [s]) s + 1) = r.length + 1
    rw [if_neg (fun e => h (List.mem_cons.2 (Or.inl e.symm))), pos_new (B := r) (fun hr => h (List.mem_cons.2 (Or.inr hr)))]
def known (B : List ByteArray) (s : ByteArray) : Bool := B.any fun x => decide (x = s)
theorem known_iff {B : List ByteArray} {s : ByteArray} : known B s = true ↔ s ∈ B := by simp [known]
theorem known_not {B : List ByteArray} {s : ByteArray} (h : s ∉ B) : known B s = false := by
  cases e : known B s with
  | false => rfl
  | true => exact absurd (known_iff.1 e) h
/-- a book that has marked a text -/
def seen (B : List ByteArray) (s : ByteArray) : List ByteArray := if known B s = true then B else B ++ [s]
theorem seen_mem (B : List ByteArray) (s : ByteArray) : s ∈ seen B s := by
  unfold seen
  by_cases h : s ∈ B
  · rw [if_pos (known_iff.2 h)]; exact h
  · rw [if_neg (fun e => h (known_iff.1 e))]; exact List.mem_append.2 (Or.inr (List.mem_cons.2 (Or.inl rfl)))
theorem seen_old {B : List ByteArray} {t : ByteArray} (s : ByteArray) (h : t ∈ B) : t ∈ seen B s ∧ pos (seen B s) t = pos B t := by
  unfold seen
  by_cases hs : s ∈ B
  · rw [if_pos (known_iff.2 hs)]; exact ⟨h, rfl⟩
  · rw [if_neg (fun e => hs (known_iff.1 e))]; exact ⟨List.mem_append.2 (Or.inl h), pos_append _ h⟩
def keyL (s : ByteArray) : Lit := .string s.data.toList
theorem keyL_inj {s t : ByteArray} (h : keyL s = keyL t) : s = t := by
  unfold keyL at h
  injection h with h
  have h2 : s.data = t.data := Array.toList_inj.1 h
  cases s
  cases t
  exact congrArg ByteArray.mk h2
theorem keyL_lit {s : ByteArray} : WideAt.IsKeyLit (keyL s) := by unfold keyL WideAt.IsKeyLit; trivial
structure BookD (D : DataW Unit) (B : List ByteArray) : Prop where
  isMap : Maps.IsMap D
  has : ∀ s, Maps.has D (keyL s) = known B s
  at_ : ∀ s z, s ∈ B → D.atKey (keyL s) z = .lit (.int .i64 ((pos B s : Nat) + 1))
  size : Maps.size D = B.length
theorem BookD.nil : BookD (.map []) [] := ⟨⟨[], rfl⟩, fun s => rfl, fun s z h => (by cases h), rfl⟩
theorem BookD.add {D : DataW Unit} {B : List ByteArray} {s : ByteArray} (h : BookD D B) (ht : Maps.Tidy D) (hs : s ∉ B) : BookD (D.put (keyL s) (.lit (.int .i64 ((B.length : Nat) + 1)))) (B ++ [s]) := by
  refine ⟨h.isMap.put _ _, fun t => ?_, fun t z hm => ?_, ?_⟩
  · by_cases e : t = s
    · subst e
      rw [Maps.has_put_same h.isMap keyL_lit]
      exact (known_iff.2 (List.mem_append.2 (Or.inr (List.mem_cons.2 (Or.inl rfl))))).symm
    · rw [Maps.has_put_other (fun h => e (keyL_inj h)), h.has]
      unfold known
      rw [List.any_append]
      simp only [List.any_cons, List.any_nil, Bool.or_false, decide_eq_false (fun h : s = t => e h.symm)]
  · by_cases e : t = s
    · subst e
      rw [Maps.atKey_put_same h.isMap keyL_lit, pos_new hs]
    · have hB : t ∈ B := (List.mem_append.1 hm).elim id (fun h => absurd (List.mem_singleton.1 h) e)
      rw [Maps.atKey_put_other (fun h => e (keyL_inj h)), h.at_ t z hB, pos_append _ hB]
  · have hh : Maps.has D (keyL s) = false := by rw [h.has]; exact known_not hs
    rw [Maps.size_put ht, hh, h.size]
    simp
/-- a number as a mark: eight bytes of it, the rest noughts -/
def numL (n : Nat) : List UInt8 := (List.range 32).map fun i => if i ≤ 7 then UInt8.ofNat (n / 256 ^ i) else 0
def numb (n : Nat) : ByteArray := ⟨(numL n).toArray⟩
theorem numL_length (n : Nat) : (numL n).length = 32 := by unfold numL; rw [List.length_map, List.length_range]
theorem numb_size (n : Nat) : (numb n).size = 32 := by
  show (numL n).toArray.size = 32
  rw [List.size_toArray, numL_length]
theorem numL_at (n i : Nat) (hi : i ≤ 7) : (numL n)[i]? = some (UInt8.ofNat (n / 256 ^ i)) := by
  unfold numL
  rw [List.getElem?_map, List.getElem?_range (by omega)]
  show some (if i ≤ 7 then _ else _) = _
  rw [if_pos hi]
theorem numb_inj {n m : Nat} (hn : n < 18446744073709551616) (hm : m < 18446744073709551616) (h : numb n = numb m) : n = m := by
  have hl : numL n = numL m := by
    unfold numb at h
    injection h with h
    simpa using h
  have key : ∀ i, i ≤ 7 → n / 256 ^ i % 256 = m / 256 ^ i % 256 := fun i hi => by
    have h1 := numL_at n i hi
    rw [hl, numL_at m i hi] at h1
    injection h1 with h1
    have h2 := congrArg UInt8.toNat h1
    rw [UInt8.toNat_ofNat', UInt8.toNat_ofNat'] at h2
    exact h2.symm
  have k0 := key 0 (by omega)
  have k1 := key 1 (by omega)
  have k2 := key 2 (by omega)
  have k3 := key 3 (by omega)
  have k4 := key 4 (by omega)
  have k5 := key 5 (by omega)
  have k6 := key 6 (by omega)
  have k7 := key 7 (by omega)
  simp only [Nat.reducePow, Nat.div_one] at k0 k1 k2 k3 k4 k5 k6 k7
  omega
/-- a text's mark in a book that has it -/
def markOf (B : List ByteArray) (s : ByteArray) : ByteArray := numb (pos B s + 1)
theorem mark_inj {B : List ByteArray} {s t : ByteArray} (hs : s ∈ B) (ht : t ∈ B) (hB : B.length ≤ 1000000000) (h : markOf B s = markOf B t) : s = t := by
  have h1 := pos_lt hs
  have h2 := pos_lt ht
  exact pos_inj hs ht (Nat.succ.inj (numb_inj (by omega) (by omega) h))
end Go.Proofs.YtaemlplcjjbamaaGreatDoor
namespace Go.Proofs.YtaemlplcjjbamaaGreatDoor
open Go Go.RowKit Go.WideMaps Go.Maps
set_option linter.unusedVariables false
structure BookIs (w : World) (k mb : Nat) (B : List ByteArray) : Prop where
  at_ : BookAt w k mb
  own : ∃ D : DataW Unit, w.ownsMap Tryz.prog 9 (plainElem Tryz.prog 3) mb B.length D ∧ BookD D B
theorem book_law : Keyed Tryz.prog 9 := string_keyed Tryz.underlying9
theorem book_zero (w : World) : (zeroValue 3).run Tryz.prog w = .ok (.int .i64 0) w := by kernel_rfl
theorem book_key {s : ByteArray} (h : s.size ≤ maxLen) : keyOf Tryz.prog 9 (.string s) = some (keyL s) := keyOf_string_mk Tryz.underlying9 h
theorem ideal_book (w : World) :
    Calls Tryz.prog 15 #[] w fun e w' => ∃ b m, e = .returned (.pointer (some ⟨b, 0, none⟩)) ∧ w.heap.size ≤ b ∧ w.heap.size ≤ m ∧ BookIs w' b m [] ∧ Below w.heap.size w w' := by
  refine (ideal_any w).mono ?_
  rintro e w' ⟨b, m, rfl, hb, hm, hk, hmap, hB⟩
  refine ⟨b, m, rfl, hb, hm, ⟨hk, .map [], ?_, BookD.nil⟩, hB⟩
  obtain ⟨es, clock, h1, h2, h3, h4⟩ := World.ownsMap_made w Tryz.prog 9 (plainElem (H := Unit) Tryz.prog 3)
  rw [heap_alloc_new] at h1
  injection h1 with h1
  injection h1 with h5 h6
  subst h5
  subst h6
  exact ⟨#[], 0, hmap, h2, h3, h4⟩
theorem BookIs.below {w w' : World} {k mb : Nat} {B : List ByteArray} (h : BookIs w k mb B) (hb : Below w.heap.size w w') : BookIs w' k mb B := by
  obtain ⟨D, h1, h2⟩ := h.own
  obtain ⟨es, clock, k1, k2, k3, k4⟩ := h1
  have hlt : mb < w.heap.size := World.ownsMap.lt ⟨es, clock, k1, k2, k3, k4⟩
  exact ⟨Blk.touch h.at_ (S := fun _ => False) ⟨hb.os, hb.tape, hb.output, hb.size, fun i hi _ => hb.block i hi⟩ id, D, ⟨es, clock, (hb.block mb hlt).trans k1, k2, k3, k4⟩, h2⟩
end Go.Proofs.YtaemlplcjjbamaaGreatDoor
namespace Go.Proofs.YtaemlplcjjbamaaGreatDoor
open Go Go.RowKit
set_option linter.unusedVariables false
def numVals (n k : Nat) : List Value := ((numL n).take k).map (fun b => Value.int .u8 (b.toNat : Int)) ++ List.replicate (32 - k) (.int .u8 0)
theorem numVals_length (n k : Nat) (h : k ≤ 32) : (numVals n k).length = 32 := by
  unfold numVals
  rw [List.length_append, List.length_map, List.length_take, numL_length, List.length_replicate]
  omega
theorem numVals_set (n k : Nat) (h : k < 32) (b : UInt8) (hb : (numL n)[k]? = some b) : (numVals n k).set k (.int .u8 (b.toNat : Int)) = numVals n (k + 1) := by
  have hl := numL_length n
  unfold numVals
  have e : ((numL n).take (k + 1)) = (numL n).take k ++ [b] := by
    rw [List.take_add_one, hb]
    rfl
  have hk : (((numL n).take k).map (fun b => Value.int .u8 (b.toNat : Int))).length = k := by rw [List.length_map, List.length_take]; omega
  rw [List.set_append_right _ _ (by omega), hk, Nat.sub_self, e, List.map_append, List.append_assoc]
  obtain ⟨m, hm⟩ : ∃ m, 32 - k = m + 1 := ⟨31 - k, by omega⟩
  rw [hm, show 32 - (k + 1) = m by omega]
  rfl
theorem info_u8b : (Tryz.prog.info? 5).map (fun i => (i.zero, i.size, i.bytes)) = some (some (.int .u8 0), 1, 1) := by kernel_rfl
set_option maxRecDepth 100000 in
set_option maxHeartbeats 1000000 in
theorem numbered_any (n : Nat) (w : World) (hn : n < 4611686018427387904) :
    Calls Tryz.prog 27 #[.int .i64 n] w fun e w' => e = .returned (.string (numb n)) ∧ Below w.heap.size w w' := by
  have hmk : ∀ W : World, (Instr.makeSlice 108 (.int .i64 32) (.int .i64 32)).run Tryz.prog W = .ok (.slice (some ⟨W.heap.size, 0, none⟩) 32 32) (W.alloc (.cells (Array.replicate 32 (.int .u8 0)) 5)) :=
    fun W => run_make_one 108 5 (.int .u8 0) 1 Tryz.underlying108 info_u8b rfl 32 (by omega) (by omega) W
  go_enter Tryz.func27, Tryz.ntmps27
  go_wp2
  go_loopw [4, 8] (fun _ i wr => ∃ k : Nat, k ≤ 32 ∧ i = .int .i64 k ∧ Hid (Blk wr w.heap.size (numVals n k) 5) ∧ Hid (Below w.heap.size w wr)) (fun _ i _ => 32 - (intOf i).toNat)
  case atStart =>
    refine ⟨0, Nat.zero_le _, rfl, Lib.hid ?_, Lib.hid ((Below.refl _ _).alloc (Nat.le_refl _) _)⟩
    exact Blk.new w (numVals n 0) _
  case round =>
    obtain ⟨k, hk, rfl, HB, HW⟩ := hrel
    by_cases hlt : k < 32
    · have hlen := numVals_length n k hk
      have hlt2 : (k : Int) < 32 := by omega
      have c0 : ∃ v, wr.cell? ⟨w.heap.size, k, none⟩ = some v := ⟨_, (HB.out.cell k).trans (List.getElem?_eq_getElem (by omega))⟩
      obtain ⟨v0, c0⟩ := c0
      have f0 : wr.frozen? ⟨w.heap.size, k, none⟩ = false := HB.out.free k
      by_cases h7 : k ≤ 7
      · have h7i : (k : Int) ≤ 7 := by omega
        have hmin : min (k : Int) 7 = k := by omega
        have Hset := Lib.hid (numVals_set n k hlt (UInt8.ofNat (n / 256 ^ k)) (numL_at n k h7))
        have Hv : Hid (((UInt8.ofNat (n / 256 ^ k)).toNat : Int) = (n : Int) / 2 ^ (8 * k) % 256) := Lib.hid (by
          rw [UInt8.toNat_ofNat', show (2 : Int) ^ (8 * k) = ((256 ^ k : Nat) : Int) by rw [Int.pow_mul]; norm_cast]
          norm_cast)
        clear hk hlen
        go_wp2
        refine ⟨⟨k + 1, by omega, by go_num, Lib.hid ?_, Lib.hid (HW.out.setCell (Nat.le_refl _) _)⟩, by simp [intOf]; omega⟩
        rw [← Hset.out, Hv.out]
        exact HB.out.set k _
      · have h7i : (7 : Int) < (k : Int) := by omega
        have hmin : min (k : Int) 7 = 7 := by omega
        have h0 : (numL n)[k]? = some 0 := by
          unfold numL
          rw [List.getElem?_map, List.getElem?_range hlt]
          show some (if k ≤ 7 then _ else _) = _
          rw [if_neg h7]
        have Hset := Lib.hid (numVals_set n k hlt 0 h0)
        clear hk hlen h0
        go_wp2
        refine ⟨⟨k + 1, by omega, by go_num, Lib.hid ?_, Lib.hid ((HW.out.setCell (Nat.le_refl _) _).setCell (Nat.le_refl _) _)⟩, by simp [intOf]; omega⟩
        have h2 := (HB.out.set k (.int .u8 ((n : Int) / 72057594037927936))).set k (.int .u8 0)
        rw [List.set_set] at h2
        rw [← Hset.out]
        exact h2
    · have hk32 : k = 32 := by omega
      subst hk32
      have hback : (convert 108 9 (.slice (some ⟨w.heap.size, 0, none⟩) 32 32)).run Tryz.prog wr = .ok (.string (numb n)) wr := by
        refine run_convert_bytes_back wr 108 9 5 ⟨w.heap.size, 0, none⟩ 32 (numL n) Tryz.underlying108 Tryz.underlying5 Tryz.underlying9 ?_
        intro j hj
        first | rw [addr_add, Nat.zero_add] | rw [addr_add]
        refine (HB.out.cell j).trans ?_
        unfold numVals
        rw [List.take_of_length_le (by rw [numL_length]; exact Nat.le_refl _), Nat.sub_self, List.replicate_zero, List.append_nil, List.getElem?_map, List.getElem?_eq_getElem hj]
        rfl
      go_wp2
      go_ret
      exact ⟨rfl, HW.out⟩
end Go.Proofs.YtaemlplcjjbamaaGreatDoor
namespace Go.Proofs.YtaemlplcjjbamaaGreatDoor
open Go Go.RowKit Go.WideMaps Go.Maps
set_option linter.unusedVariables false
theorem strEq_any (a b : ByteArray) : (a.toList == b.toList) = decide (a = b) := by
  rw [ByteArray.toList_eq, ByteArray.toList_eq]
  by_cases h : a = b
  · subst h; simp
  · rw [decide_eq_false h]
    simp only [beq_eq_false_iff_ne, ne_eq]
    intro h2
    apply h
    cases a; cases b
    congr
    simpa using h2
/-- what a book tells of a text and a mark -/
def tells (B : List ByteArray) (s m : ByteArray) : Bool := known B s && decide (markOf B s = m)
set_option maxRecDepth 100000 in
theorem elem_int {v : Value} {a : Int} {ps : List MemPlace} (h : plainElem (H := Unit) Tryz.prog 3 v = some (.lit (.int .i64 a), ps)) : v = .int .i64 a := by
  unfold plainElem at h
  rw [Tryz.underlying3] at h
  cases v with
  | int q b =>
    simp only at h
    split at h
    · rename_i hq
      injection h with h
      injection h with h _
      injection h with h
      injection h with h1 h2
      rw [hq.1, h2]
    · cases h
  | _ => cases h
set_option maxRecDepth 100000 in
set_option maxHeartbeats 1000000 in
theorem mark_any (k mb : Nat) (B : List ByteArray) (s : ByteArray) (w : World) (h : BookIs w k mb B) (hs : s.size ≤ maxLen) (hB : B.length ≤ 1000000000) (hne : k ≠ mb) :
    Calls Tryz.prog 11 #[.pointer (some ⟨k, 0, none⟩), .string s] w fun e w' => e = .returned (.string (markOf (seen B s) s)) ∧ BookIs w' k mb (seen B s) ∧ Touch (fun j => j = mb) w w' := by
  have H := Lib.hid h
  obtain ⟨hat, D, hown, hD⟩ := h
  have c2 := hat.real
  have c3 := hat.seen
  have HN := Lib.hid (noBook_any k mb w hat)
  obtain ⟨v, ps, hlook, hv⟩ := hown.look_ok book_law Tryz.underlying89 (book_zero w) (zd := .lit (.int .i64 0)) (zp := []) (plainElem_int Tryz.underlying3 (by decide)) (book_key hs)
  rw [hD.has] at hlook
  cases hk : known B s with
  | true =>
    have hm := known_iff.1 hk
    have hp := pos_lt hm
    have hsn : seen B s = B := by unfold seen; rw [if_pos hk]
    rw [hD.at_ s _ hm] at hv
    have hv2 : v = .int .i64 ((pos B s + 1 : Nat) : Int) := by rw [elem_int hv]; norm_cast
    subst hv2
    have HM := Lib.hid (numbered_any (pos B s + 1) w (by omega))
    have ht : Hid (markOf (seen B s) s = numb (pos B s + 1)) := Lib.hid (by rw [hsn]; rfl)
    rw [hk] at hlook
    rw [ht.out, hsn]
    clear hat hown hD hv hm hp ht hsn
    generalize pos B s + 1 = N at hlook HM ⊢
    go_enter Tryz.func11, Tryz.ntmps11
    go_wp2_with fail
    refine HN.out.mono ?_
    rintro e w1 ⟨rfl, rfl⟩
    go_wp2_with fail
    refine HM.out.mono ?_
    rintro e w2 ⟨rfl, hb⟩
    have HB := Lib.hid hb
    clear hb
    go_wp2_with fail
    go_ret
    exact ⟨rfl, H.out.below HB.out, Touch.of_below HB.out⟩
  | false =>
    have hm : s ∉ B := fun h => by rw [known_iff.2 h] at hk; cases hk
    have hsn : seen B s = B ++ [s] := by unfold seen; rw [if_neg (by rw [hk]; decide)]
    have hlen := fun ty => hown.len Tryz.underlying89 ty
    rw [hD.size] at hlen
    have Hown := Lib.hid hown
    have HD := Lib.hid hD
    have Hat := Lib.hid hat
    have HT := Lib.hid (hown.tidy book_law)
    have hkey := Lib.hid (book_key hs)
    have HM := Lib.hid (show ∀ w', Calls Tryz.prog 27 #[.int .i64 ((B.length : Int) + 1)] w' fun e w'' => e = .returned (.string (numb (B.length + 1))) ∧ Below w'.heap.size w' w'' from fun w' => by
      have h := numbered_any (B.length + 1) w' (by omega)
      rwa [show ((B.length + 1 : Nat) : Int) = (B.length : Int) + 1 by norm_cast] at h)
    have ht : Hid (markOf (B ++ [s]) s = numb (B.length + 1)) := Lib.hid (by unfold markOf; rw [pos_new hm])
    have hwf : (Lit.int .i64 ((B.length : Int) + 1)).wf = true := by
      have := wrap64_wf ((B.length : Int) + 1)
      rw [show wrap64 ((B.length : Int) + 1) = (B.length : Int) + 1 by unfold wrap64; omega] at this
      exact this
    have HV := Lib.hid (plainElem_int (H := Unit) Tryz.underlying3 hwf)
    have HX := Lib.hid (show B.length < maxLen by unfold maxLen; omega)
    rw [hk] at hlook
    rw [hsn, ht.out]
    clear hown hD hv ht hsn hat
    go_enter Tryz.func11, Tryz.ntmps11
    go_wp2_with fail
    refine HN.out.mono ?_
    rintro e w1 ⟨rfl, rfl⟩
    go_wp2_with (at_mapUpdate; refine wpList_mapUpdate_own _ rfl _ _ _ 89 rfl 9 3 book_law Tryz.underlying89 _ mb B.length _ rfl Hown.out HX.out _ _ _ rfl rfl hkey.out _ [] HV.out ?_)
    intro w1 hown1 hgrow1
    have hb1 : Blk w1 k _ _ := blk_grown Hat.out hgrow1 (by intro h; injection h with h; exact hne h.symm)
    have HB1 := Lib.hid (BookIs.mk hb1 ⟨_, (by rw [List.length_append]; exact hown1), HD.out.add HT.out hm⟩)
    clear hown1 hb1
    have HG := Lib.hid hgrow1
    clear hgrow1
    go_wp2_with fail
    refine (HM.out _).mono ?_
    rintro e w2 ⟨rfl, hb⟩
    have HB := Lib.hid hb
    clear hb
    go_wp2_with fail
    go_ret
    refine ⟨rfl, HB1.out.below HB.out, ?_⟩
    have hT : Touch (fun j => j = mb) w w1 := ⟨HG.out.os, HG.out.tape, HG.out.output, HG.out.size, fun i hi hn => HG.out.block i hi (fun e => hn (by injection e))⟩
    exact hT.trans (Touch.of_below HB.out)
end Go.Proofs.YtaemlplcjjbamaaGreatDoor
namespace Go.Proofs.YtaemlplcjjbamaaGreatDoor
open Go Go.RowKit
set_option linter.unusedVariables false
end Go.Proofs.YtaemlplcjjbamaaGreatDoor
