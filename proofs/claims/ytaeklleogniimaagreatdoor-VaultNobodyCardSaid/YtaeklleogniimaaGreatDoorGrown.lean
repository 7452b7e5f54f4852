/- How bytes grow: append of noughts to a row that is owned. Conditions: sizes. -/
import Derived.Test.YtaeklleogniimaaGreatDoorCreate
import Derived.Lib.AppendZerosOnto
namespace Go.Proofs.YtaeklleogniimaaGreatDoor
open Go.RowKit

theorem info_byte : (Tryz.prog.info? 5).map (fun i => (i.zero, i.size, i.bytes)) = some (some (.int .u8 0), 1, 1) := by kernel_rfl
def noughts (k : Nat) : List Value := List.replicate k (Value.int .u8 0)
theorem zeroCells_u8 (k : Nat) : (Builtin.zeroCells (Value.int .u8 0).cells k) = (noughts k).toArray := by
  apply Array.ext
  · simp [Builtin.zeroCells, Value.cells, noughts]
  · intro i h1 h2
    simp [Builtin.zeroCells, Value.cells, noughts, Nat.mod_one]

theorem run_room_zeros (w : World) (g n cap k : Nat) (cur : Array Value) (hg : w.heap[g]? = some (.cells cur 5 (0, 0))) (ty : TypeId) (hk : 0 < k) (hroom : n + k ≤ cap) (hfit : n + k ≤ cur.size) (hs : n + k ≤ 4194304) :
    (Builtin.append_ #[134, 3] ty #[.slice (some ⟨g, 0, none⟩) n cap, .int .i64 k]).run Tryz.prog w = .ok (.slice (some ⟨g, 0, none⟩) (n + k) cap) (w.setRow g (cur.toList.take n ++ noughts k ++ cur.toList.drop (n + k)).toArray) := by
  obtain ⟨i0, hi0, hz0, hzs, hzb⟩ := info_parts info_byte
  have hl : (noughts k).length = k := by simp [noughts]
  have hst := run_storeCells_at Tryz.prog g (n * i0.size) 5 (noughts k) 0 cur w hg (by rw [hl, hzs]; omega) (by simp [noughts, Value.oneCell'])
  simp only [Nat.add_zero, hl, hzs, Nat.mul_one] at hst
  have hw : IntKind.i64.wrap (k : Int) = k := by rw [IntKind.wrap_i64]; omega
  have hneg : ¬ ((k : Int) < 0) := by omega
  have h48i : ¬ (281474976710656 < (k : Int) * (i0.bytes : Int)) := by rw [hzb]; omega
  simp [Builtin.append_, run_underlying Tryz.underlying134, run_underlying Tryz.underlying3, sizeOf, typeInfo, zeroValue, hi0, hz0, asInt, asIntOf, hw, hneg, h48i, hroom, Addr.add_lit, zeroCells_u8, hzs, hst]
  intro h0
  omega

theorem run_zeros_own (w : World) (v : Value) (n k : Nat) (xs : List Value) (hown : w.ownsRow 0 5 1 v n xs) (hk : 0 < k) (hs : n + k ≤ 4194304) (ty : TypeId) :
    ∃ g cap w', (Builtin.append_ #[134, 3] ty #[v, .int .i64 k]).run Tryz.prog w = .ok (.slice (some ⟨g, 0, none⟩) (n + k) cap) w' ∧
      w'.ownsRow 0 5 1 (.slice (some ⟨g, 0, none⟩) (n + k) cap) (n + k) (xs ++ noughts k) ∧ Touch (fun k => v.ownBlock = some k) w w' ∧ (v.ownBlock = some g ∨ g = w.heap.size) := by
  obtain ⟨i0, hi0, hz0, hzs, hzb⟩ := info_parts info_byte
  have hxl : xs.length = n := by rw [hown.1, Nat.mul_one]
  have hnl : (noughts k).length = k := by simp [noughts]
  have grow : ∀ (base : Option Addr) (sCap : Nat), sCap < n + k → (Builtin.firstCells i0.size n (.slice base n sCap)).run Tryz.prog w.drew = .ok xs.toArray w.drew →
      ∃ g cap w', (Builtin.append_ #[134, 3] ty #[.slice base n sCap, .int .i64 k]).run Tryz.prog w = .ok (.slice (some ⟨g, 0, none⟩) (n + k) cap) w' ∧
      w'.ownsRow 0 5 1 (.slice (some ⟨g, 0, none⟩) (n + k) cap) (n + k) (xs ++ noughts k) ∧ (∀ S : Nat → Prop, Touch S w w') ∧ g = w.heap.size := by
    intro base sCap hg hold
    have hr := Lib.run_append_grow_zeros w 134 3 ty 5 i0 _ .i64 .i64 Tryz.underlying134 Tryz.underlying3 hi0 hz0 base n sCap xs hold k hk (by omega) hg (by omega) (by rw [hzb]; omega) (by rw [hzb]; exact growslice_fits hg (by omega))
    have hge := grownCap_ge w (n + k) sCap 5
    have hcm : grownCap w (n + k) sCap 5 ≤ maxLen := grownCap_le_maxLen w _ _ _ (by unfold maxLen; omega)
    refine ⟨_, _, _, hr, ⟨by rw [List.length_append, hxl, hnl, Nat.mul_one], Or.inr ⟨w.heap.size, _, _, rfl, Nat.zero_le _, heap_alloc_new w.drew _, hge, hcm, ?_, ?_⟩⟩, fun S => ((Touch.refl S w).drew).alloc _, rfl⟩
    · simp [zeroCells_u8, hxl, noughts]; omega
    · rw [zeroCells_u8, zeroCells_u8, Nat.mul_one]
      simp only [Array.toList_append]
      rw [List.take_left' (by simp [hxl, hnl])]
  rcases hown.2 with ⟨rfl, rfl⟩ | ⟨g, cap, cur, rfl, _, hb, hnc, hc, hcs, ht⟩
  · obtain rfl : xs = [] := List.eq_nil_of_length_eq_zero hxl
    obtain ⟨g, cap, w', h1, h2, h3, h4⟩ := grow none 0 (by omega) (by rw [hzs]; exact run_firstCells_none w.drew 1 0 0 0)
    exact ⟨g, cap, w', h1, h2, h3 _, Or.inr h4⟩
  · rw [Nat.mul_one] at hcs ht
    by_cases hroom : n + k ≤ cap
    · have hr := run_room_zeros w g n cap k cur hb ty hk hroom (by omega) hs
      refine ⟨g, cap, _, hr, ⟨by rw [List.length_append, hxl, hnl, Nat.mul_one], Or.inr ⟨g, cap, _, rfl, Nat.zero_le _, setRow_heap w g cur _ 5 _ hb, hroom, hc, ?_, ?_⟩⟩, ?_, Or.inl rfl⟩
      · simp [hnl]; omega
      · rw [Nat.mul_one, ht]
        show List.take (n + k) (xs ++ noughts k ++ cur.toList.drop (n + k)) = _
        rw [List.take_left' (by simp [hxl, hnl])]
      · exact ⟨rfl, rfl, rfl, by simp, fun j _ hj => setRow_other w g j _ (fun e => hj (by simp [Value.ownBlock, e]))⟩
    · obtain ⟨g', cap', w', h1, h2, h3, h4⟩ := grow (some ⟨g, 0, none⟩) cap (by omega) (by
        rw [hzs]
        exact run_firstCells_some w.drew 1 n ⟨g, 0, none⟩ n cap xs (by omega) (fun j u hj => by
          have := hown.cells (g := g) rfl j u hj
          exact this))
      exact ⟨g', cap', w', h1, h2, h3 _, Or.inr h4⟩

def slen : Value → Nat
  | .slice _ n _ => n
  | _ => 0
theorem grown_any (v : Value) (n m : Nat) (xs : List Value) (w : World) (hown : w.ownsRow 0 5 1 v n xs) (hn : n ≤ 4194304) (hm : m ≤ 4194304) :
    Calls Tryz.prog 201 #[v, .int .i64 m] w fun e w' => ∃ v', e = .returned v' ∧ w'.ownsRow 0 5 1 v' (max n m) (xs ++ noughts (m - n)) ∧ Touch (fun k => v.ownBlock = some k) w w' ∧ (v'.ownBlock = v.ownBlock ∨ v'.ownBlock = some w.heap.size) := by
  obtain ⟨ad, cap, rfl⟩ := row_shape hown
  have H := Lib.hid hown
  clear hown
  go_enter Tryz.func201, Tryz.ntmps201
  go_wp2
  go_loopw [0] (fun x wr => ∃ ad' cap' q, x = .slice ad' q cap' ∧ (q = n ∨ (q = m ∧ n ≤ m)) ∧ Hid (wr.ownsRow 0 5 1 x q (xs ++ noughts (q - n))) ∧ Hid (Touch (fun k => (Value.slice ad n cap).ownBlock = some k) w wr) ∧ Hid (x.ownBlock = (Value.slice ad n cap).ownBlock ∨ x.ownBlock = some w.heap.size) ∧ (q = n → wr = w ∧ x = .slice ad n cap)) (fun x _ => m - slen x)
  case atStart => exact ⟨ad, cap, n, rfl, Or.inl rfl, Lib.hid (by rw [Nat.sub_self]; simpa [noughts] using H.out), Lib.hid (Touch.refl _ w), Lib.hid (Or.inl rfl), fun _ => ⟨rfl, rfl⟩⟩
  case round =>
    obtain ⟨ad', cap', q, rfl, hq, HO, HT, HB, h0⟩ := hrel
    by_cases hlt : q < m
    · obtain rfl : q = n := by omega
      obtain ⟨rfl, he⟩ := h0 rfl
      injection he with he1 _ he2
      subst he1; subst he2
      have e : (m : Int) - (q : Int) = ((m - q : Nat) : Int) := by omega
      obtain ⟨g, gc, w5, hr, hO5, hT5, hB5⟩ := run_zeros_own wr (.slice ad' q cap') q (m - q) xs H.out (by omega) (by omega) 134
      have HO5 := Lib.hid hO5
      have HT5 := Lib.hid hT5
      have HB5 := Lib.hid hB5
      have HR := Lib.hid hr
      have hqm : q + (m - q) = m := by omega
      clear hr hO5 hT5 hB5 h0
      go_wp2_with (at_builtin; refine Lib.wpList_append_run _ rfl _ _ _ _ rfl _ _ rfl rfl _ _ HR.out ?_)
      go_round
      case rel =>
        refine ⟨some ⟨g, 0, none⟩, gc, m, by first | rfl | rw [hqm], Or.inr ⟨rfl, by omega⟩, Lib.hid ?_, HT5, Lib.hid ?_, fun h => absurd h (by omega)⟩
        · have := HO5.out
          rw [hqm] at this
          first | exact this | (rw [hqm]; exact this)
        · rcases HB5.out with h | h
          · exact Or.inl h.symm
          · right; rw [← h]; rfl
      case measure => simp [slen]; omega
    · go_wp2_with fail
      go_ret
      refine ⟨_, rfl, ?_, HT.out, HB.out⟩
      have hmx : max n m = q := by omega
      have hmq : m - n = q - n := by omega
      rw [hmx, hmq]
      exact HO.out
end Go.Proofs.YtaeklleogniimaaGreatDoor
