/- The walk of FrameBursts: texts that differ in bits within 32 side by side have unlike sums. No condition. -/
import Derived.Test.YthfaokiiciebdaaSum
import Derived.Test.YthfaokiiciebdaaBurst
import Derived.Lib.ConvBytes
import Derived.Deep.DeepCutAuto
namespace Go.Proofs.Ythfaokiiciebdaa
open Go.RowKit

/-- the bytes l lie in block g from its head on, and may be written -/
def BytesAt (w : World) (g : Nat) (l : List UInt8) : Prop :=
  (∀ j, j < l.length → w.cell? ⟨g, j, none⟩ = some (.int .u8 ((l.getD j 0).toNat : Int))) ∧ ∀ j, j < l.length → w.frozen? ⟨g, j, none⟩ = false

theorem bytesAt_made (w : World) (e : TypeId) (s : ByteArray) : BytesAt (Lib.bytesWorld w e s) w.heap.size s.data.toList := by
  refine ⟨fun j hj => Lib.bytesWorld_cell w e s j (by simpa using hj), fun j hj => ?_⟩
  have h := Lib.bytesWorld_at_new w e s
  have hs : s.size ≤ (Lib.bytesCells w e s).size := by unfold Lib.bytesCells; simp
  have hj' : j < s.size := by simpa using hj
  simp [World.frozen?, h]
  omega
theorem below_bytesWorld (w : World) (e : TypeId) (s : ByteArray) : Below w.heap.size w (Lib.bytesWorld w e s) :=
  ⟨rfl, rfl, rfl, by rw [Lib.bytesWorld_size]; omega, fun k hk => Lib.bytesWorld_at_old w e s k hk⟩

theorem bytesAt_set {w : World} {g : Nat} {l : List UInt8} (h : BytesAt w g l) (j : Nat) (hj : j < l.length) (c : UInt8) (v : Value) (hv : v = .int .u8 (c.toNat : Int)) :
    BytesAt (w.setCell ⟨g, j, none⟩ v).drew g (l.set j c) := by
  refine ⟨fun i hi => ?_, fun i hi => ?_⟩
  · have hi' : i < l.length := by simpa using hi
    show (w.setCell ⟨g, j, none⟩ v).cell? ⟨g, i, none⟩ = _
    by_cases hij : j = i
    · subst hij
      rw [World.cell?_setCell_same (h := h.1 j hj), hv]
      simp [List.getD, hj]
    · rw [World.cell?_setCell_other (h := by intro e; injection e; omega), h.1 i hi']
      simp [List.getD, hij]
  · have hi' : i < l.length := by simpa using hi
    show (w.setCell ⟨g, j, none⟩ v).frozen? ⟨g, i, none⟩ = _
    rw [World.frozen?_setCell]
    exact h.2 i hi'

theorem xor8 (c : UInt8) (q : Nat) (hq : q < 8) : bits BinOp.xor IntKind.u8 (c.toNat : Int) (2 ^ q % 256) = ((UInt8.ofNat (c.toNat ^^^ 2 ^ q)).toNat : Int) ∧ (UInt8.ofNat (c.toNat ^^^ 2 ^ q)).toNat = c.toNat ^^^ 2 ^ q := by
  have hc := UInt8.toNat_lt c
  have h2 : 2 ^ q < 2 ^ 8 := Nat.pow_lt_pow_right (by omega) hq
  have hx : c.toNat ^^^ 2 ^ q < 2 ^ 8 := Nat.xor_lt_two_pow hc h2
  have e : (UInt8.ofNat (c.toNat ^^^ 2 ^ q)).toNat = c.toNat ^^^ 2 ^ q := by
    rw [UInt8.toNat_ofNat']
    exact Nat.mod_eq_of_lt hx
  refine ⟨?_, e⟩
  have h3 : ((2 : Int) ^ q % 256) = ((2 ^ q : Nat) : Int) := by
    rw [show (2 : Int) ^ q = ((2 ^ q : Nat) : Int) by simp]
    exact Int.emod_eq_of_lt (Int.natCast_nonneg _) (Int.ofNat_lt.2 h2)
  rw [h3, e]
  exact u8_xor_nat c.toNat (2 ^ q) hc (by omega)

set_option maxHeartbeats 2000000 in
theorem frameBursts_walk (s0 : ByteArray) (a p : Int) (w : World) (hs0 : s0.size ≤ maxLen) (_ha : (Lit.int .i64 a).wf = true) (_hp : (Lit.int .i64 p).wf = true) :
    Calls Try.prog 5 #[.string s0, .int .i64 a, .int .i64 p] w fun e w' => e = .returned (.bool true) ∧ Below w.heap.size w w' := by
  unfold maxLen at hs0
  go_enter Try.func5, Try.ntmps5
  go_upto_if 12 with (fail)
  go_cut [0] (fun v wx => ∃ s : ByteArray, v = .string s ∧ s.size ≤ 2048 ∧ w = wx)
  case first =>
    by_cases h : s0.size ≤ 2048
    · go_wp2
      go_meet
      exact ⟨_, rfl, h, rfl⟩
    · go_wp2
      go_meet
      exact ⟨_, rfl, by simp; omega, rfl⟩
  case rest =>
    obtain ⟨s, rfl, hs, rfl⟩ := hcut
    by_cases h : p < 1 ∨ 4294967295 < p ∨ a < 0 ∨ 8 * (s.size : Int) < a
    · have hd : (decide (p < 1) || decide (4294967295 < p) || decide (a < 0) || decide (8 * (s.size : Int) < a)) = true := by
        simp only [Bool.or_eq_true, decide_eq_true_eq]
        omega
      clear h
      go_wp2_with (go_at_call 14; refine (awake_any _).mono ?_; rintro e w' ⟨rfl, rfl⟩)
      all_goals (go_ret; exact ⟨rfl, Below.refl _ _⟩)
    obtain ⟨p, rfl⟩ := Int.eq_ofNat_of_zero_le (show 0 ≤ p by omega)
    obtain ⟨a, rfl⟩ := Int.eq_ofNat_of_zero_le (show 0 ≤ a by omega)
    have hp : 1 ≤ p := by omega
    have hp2 : p < 4294967296 := by omega
    have ha : a ≤ 8 * s.size := by omega
    clear h
    have hconv := fun w => Lib.run_convert_string_bytes (P := Try.prog) w 9 27 5 s Try.underlying9 Try.underlying27 Try.underlying5
    go_wp2
    obtain ⟨w1, hw1⟩ : ∃ w1, w1 = Lib.bytesWorld w 5 s := ⟨_, rfl⟩
    have hat : BytesAt w1 w.heap.size s.data.toList := by rw [hw1]; exact bytesAt_made w 5 s
    have hbel : Below w.heap.size w w1 := by rw [hw1]; exact below_bytesWorld w 5 s
    have Hat := Lib.hid hat
    rw [← hw1]
    clear hw1 hat
    go_loopw [8] (fun i wr => ∃ (k : Nat) (l : List UInt8), k ≤ 32 ∧ i = .int .i64 k ∧ l.length = s.size ∧ Crc.num l = Crc.num s.data.toList ^^^ Crc.low p k a ∧ Hid (BytesAt wr w.heap.size l) ∧ Below w.heap.size w wr) (fun i _ => 32 - (intOf i).toNat)
    case atStart => exact ⟨0, s.data.toList, by omega, rfl, by simp, by rw [Crc.low_zero, Nat.xor_zero], Hat, hbel⟩
    case round =>
      obtain ⟨k, l, hk, rfl, hl, hnum, hba, hbel2⟩ := hrel
      have Hnum := Lib.hid hnum
      have Hl := Lib.hid hl
      clear hnum hl
      have hq : ((p : Int) / 2 ^ k).tmod 2 = ((p / 2 ^ k % 2 : Nat) : Int) := by
        have e : ((p : Int) / 2 ^ k) = ((p / 2 ^ k : Nat) : Int) := by simp
        rw [e, Int.tmod_eq_emod_of_nonneg (Int.natCast_nonneg _)]
        rfl
      by_cases hk32 : k < 32
      · by_cases hbit : p / 2 ^ k % 2 = 0
        · have HB : (((p : Int) / 2 ^ k).tmod 2 == 0) = true := by rw [hq, hbit]; rfl
          have Hbit := Lib.hid hbit
          clear hq hbit
          go_wp2
          go_roundw
          case rel => exact ⟨k + 1, l, by omega, by go_num, Hl.out, by rw [Crc.low_skip _ _ _ Hbit.out]; exact Hnum.out, hba, hbel2⟩
          case measure => simp [intOf]; omega
        · have HB : (((p : Int) / 2 ^ k).tmod 2 == 0) = false := by rw [hq, (Nat.mod_two_eq_zero_or_one _).resolve_left hbit]; rfl
          have Hbit := Lib.hid (show p / 2 ^ k % 2 = 1 from (Nat.mod_two_eq_zero_or_one _).resolve_left hbit)
          clear hq hbit
          by_cases hin : (a + k) / 8 < s.size
          · have hi : (a + k) / 8 < l.length := by rw [Hl.out]; exact hin
            obtain ⟨c, hc⟩ : ∃ c, c = l.getD ((a + k) / 8) 0 := ⟨_, rfl⟩
            have hcell := hba.out.1 _ hi
            have hfr := hba.out.2 _ hi
            rw [← hc] at hcell
            have Hc := Lib.hid hc
            have Hi := Lib.hid hi
            clear hc hi
            have hx := xor8 c ((a + k) % 8) (Nat.mod_lt _ (by omega))
            have Hx := Lib.hid hx.1
            have Hy := Lib.hid hx.2
            clear hx
            go_wp2
            go_region
            go_wp2
            go_roundw
            case rel =>
              refine ⟨k + 1, l.set ((a + k) / 8) (UInt8.ofNat (c.toNat ^^^ 2 ^ ((a + k) % 8))), by omega, by go_num, by rw [List.length_set]; exact Hl.out, ?_, ?_, ?_⟩
              · rw [Crc.num_set l _ _ Hi.out (Nat.mod_lt _ (by omega)) _ (by rw [Hy.out, Hc.out, List.getD, List.getElem?_eq_getElem Hi.out]; rfl), Hnum.out, Crc.low_take _ _ _ _ Hbit.out]
                congr 2
                omega
              · exact bytesAt_set hba.out _ Hi.out _ _ (val_int Hx.out)
              · exact (hbel2.setCell (Nat.le_refl _) _).drew
            case measure => simp [intOf]; omega
          · go_wp2_with (go_at_call 14; refine (awake_any _).mono ?_; rintro e w' ⟨rfl, rfl⟩)
            go_ret
            exact ⟨rfl, hbel2⟩
      · have hk : k = 32 := by omega
        subst hk
        clear hq
        have hne : ((Crc.sum 0 l : Int) == (Crc.sum 0 s.data.toList : Int)) = false := by
          have := Crc.burst s.data.toList l p a (by rw [Hl.out]; simp) Hnum.out hp hp2 (by simpa using ha) 0 (by omega)
          simpa [Int.natCast_inj] using this
        have hl2 := Lib.hid (show l.length = s.size from Hl.out)
        have hback : ∀ cap, (convert 27 9 (.slice (some ⟨w.heap.size, 0, none⟩) s.size cap)).run Try.prog wr = .ok (.string ⟨l.toArray⟩) wr := by
          intro cap
          rw [← hl2.out]
          refine run_convert_bytes_back wr 27 9 5 ⟨w.heap.size, 0, none⟩ cap l Try.underlying27 Try.underlying5 Try.underlying9 ?_
          intro j hj
          have e1 : (⟨w.heap.size, 0, none⟩ : Addr).add j = ⟨w.heap.size, j, none⟩ := by
            unfold Addr.add
            split
            · subst j; rfl
            · simp
          rw [e1, hba.out.1 j hj]
          simp [List.getD, List.getElem?_eq_getElem hj]
        have Hne := Lib.hid hne
        clear hne
        go_wp2_with fail
        refine (sum_any _ _ (by unfold maxLen; show l.length ≤ _; rw [hl2.out]; omega)).mono ?_
        rintro e w' ⟨rfl, rfl⟩
        go_wp2_with fail
        refine (sum_any _ _ (by unfold maxLen; omega)).mono ?_
        rintro e w' ⟨rfl, rfl⟩
        have hne2 : (((Crc.sum 0 l : Nat) : Int) != (Crc.sum 0 s.data.toList : Nat)) = true := by rw [bne, Hne.out]; rfl
        go_wp2_with fail
        refine (awake_any _).mono ?_
        rintro e w' ⟨rfl, rfl⟩
        go_wp2_with fail
        go_ret
        exact ⟨rfl, hbel2⟩
end Go.Proofs.Ythfaokiiciebdaa
