/- The walks of four: a number in four bytes, the lowest first (frame and barqueref02). Condition: a number from 0 to 2^32 - 1. -/
import Derived.Test.YthfaokiiciebdaaOne
namespace Go.Proofs.Ythfaokiiciebdaa
open Go.RowKit

def fourL (n : Nat) : List UInt8 := [UInt8.ofNat n, UInt8.ofNat (n / 256), UInt8.ofNat (n / 65536), UInt8.ofNat (n / 16777216)]
def four (n : Nat) : ByteArray := ⟨(fourL n).toArray⟩
theorem four_size (n : Nat) : (four n).size = 4 := rfl
theorem num_fourL (n : Nat) (h : n < 4294967296) : Crc.num (fourL n) = n := by
  simp only [fourL, Crc.num, UInt8.toNat_ofNat']
  omega
theorem cnum_four (n : Nat) (h : n < 4294967296) : cnum (four n) = n := by
  show Crc.num (fourL n) = n
  exact num_fourL n h
theorem conv_new {P : Program} (w : World) (t e d : TypeId) (ht : P.underlying t = some (.slice e)) (he : P.underlying e = some (.int .u8)) (hd : P.underlying d = some .string) (xs : List Int) (n : Nat) (hn : xs.length = n)
    (s : ByteArray) (hs : strOfNums xs = s) :
    (convert t d (.slice (some ⟨w.heap.size, 0, none⟩) n n)).run P (w.alloc (.cells (xs.map (Value.int .u8)).toArray e)) = .ok (.string s) (w.alloc (.cells (xs.map (Value.int .u8)).toArray e)) := by
  rw [← hs]
  refine run_convert_bytes_arg _ t e ht he w.heap.size 0 n n xs hn ?_ d hd
  intro i hi
  rw [Nat.zero_add, World.cell?_alloc_new]
  have h : i < xs.length := by omega
  simp [List.getD, List.getElem?_eq_getElem h]

theorem four_nums (n : Nat) (hn : n < 4294967296) : strOfNums [(n : Int) % 256, (n : Int) / 256 % 256, (n : Int) / 65536 % 256, (n : Int) / 16777216] = four n := by
  have hb : ∀ x : Nat, UInt8.ofNat (x % 256) = UInt8.ofNat x := fun x => UInt8.toNat_inj.1 (by simp [UInt8.toNat_ofNat'])
  have e : ∀ (x : Int) (y : Nat), x = ((y % 256 : Nat) : Int) → UInt8.ofNat x.toNat = UInt8.ofNat y := fun x y h => by rw [h, Int.toNat_natCast]; exact hb y
  unfold strOfNums four fourL
  simp only [List.map_cons, List.map_nil]
  rw [e _ n (by omega), e _ (n / 256) (by omega), e _ (n / 65536) (by omega), e _ (n / 16777216) (by omega)]

def fourObj (n : Nat) : Obj := .cells #[.int .u8 ((n : Int) % 256), .int .u8 ((n : Int) / 256 % 256), .int .u8 ((n : Int) / 65536 % 256), .int .u8 ((n : Int) / 16777216)] 5

set_option maxHeartbeats 400000 in
theorem four_exact (n : Nat) (w : World) (hn : n < 4294967296) :
    Calls Try.prog 32 #[.int .i64 n] w fun e w' => e = .returned (.string (four n)) ∧ w.alloc (fourObj n) = w' := by
  have hc := conv_new (P := Try.prog) w 27 5 9 Try.underlying27 Try.underlying5 Try.underlying9 [(n : Int) % 256, (n : Int) / 256 % 256, (n : Int) / 65536 % 256, (n : Int) / 16777216] 4 rfl _ (four_nums n hn)
  simp only [List.map_cons, List.map_nil] at hc
  go_enter Try.func32, Try.ntmps32
  go_wp2
  go_ret
  exact ⟨rfl, rfl⟩

theorem four_any (n : Nat) (w : World) (hn : n < 4294967296) :
    Calls Try.prog 32 #[.int .i64 n] w fun e w' => e = .returned (.string (four n)) ∧ Below w.heap.size w w' :=
  (four_exact n w hn).mono fun _ _ ⟨he, hw⟩ => ⟨he, hw ▸ (Below.refl _ _).alloc (Nat.le_refl _) _⟩

theorem info_u8 : (Try.prog.info? 5).map (fun i => (i.zero, i.size, i.bytes)) = some (some (.int .u8 0), 1, 1) := by kernel_rfl

/-- the four lowest bytes of n, of which k are there -/
theorem fourL_step (n k : Nat) (hk : k < 4) : (fourL n).take (k + 1) = (fourL n).take k ++ [UInt8.ofNat (n / 256 ^ k)] := by
  match k, hk with
  | 0, _ => simp [fourL]
  | 1, _ => simp [fourL]
  | 2, _ => simp [fourL]
  | 3, _ => simp [fourL]

set_option maxHeartbeats 1000000 in
theorem refFour_any (n : Nat) (w : World) (hn : n < 4294967296) :
    Calls Try.prog 35 #[.int .i64 n] w fun e w' => e = .returned (.string (four n)) ∧ Below w.heap.size w w' := by
  go_enter Try.func35, Try.ntmps35
  go_wp2
  go_loopw [0, 3, 4] (fun m v i wr => ∃ k : Nat, k ≤ 4 ∧ i = .int .i64 k ∧ m = .int .i64 (n / 256 ^ k : Nat) ∧ wr.ownsRow w.heap.size 5 1 v k (((fourL n).take k).map fun b => Value.int .u8 (b.toNat : Int)) ∧ Below w.heap.size w wr) (fun _ _ i _ => 4 - (intOf i).toNat)
  case atStart => exact ⟨0, Nat.zero_le _, rfl, by simp, World.ownsRow_nil _ _ _ _, Below.refl _ _⟩
  case round =>
    obtain ⟨k, hk, rfl, rfl, hown, hbel⟩ := hrel
    by_cases hlt : k < 4
    · obtain ⟨q, hq⟩ : ∃ q : Nat, q = n / 256 ^ k := ⟨_, rfl⟩
      have hq32 : q < 4294967296 := by rw [hq]; exact Nat.lt_of_le_of_lt (Nat.div_le_self _ _) hn
      have Hq := Lib.hid hq
      have Hs := Lib.hid (fourL_step n k hlt)
      rw [← Hq.out]
      clear hq
      go_wp2_with (at_builtin; refine append_one rfl _ _ 27 rfl w.heap.size 5 1 1 Try.underlying27 _ info_u8 rfl (by decide) _ _ _ rfl hown [.int .u8 ((q : Int) % 256)] rfl rfl (by simp [Value.oneCell']) ?c1 ?c2 ?c3 ?_)
      case c1 => unfold maxLen; omega
      case c2 => omega
      case c3 => exact hbel.size
      intro v' w1 hown3 hb3
      go_wp2
      go_roundw
      case rel =>
        refine ⟨k + 1, by omega, by go_num, val_int ?_, ?_, hbel.trans hb3⟩
        · rw [Nat.pow_succ, ← Nat.div_div_eq_div_mul, ← Hq.out]; rfl
        · rw [Hs.out, ← Hq.out]
          simpa [UInt8.toNat_ofNat'] using hown3
      case measure => simp [intOf]; omega
    · have hk4 : k = 4 := by omega
      subst hk4
      obtain ⟨ad, cap, rfl, hcap, hmax, hlen, hnil, hsome⟩ := row_open hown
      cases ad with
      | none => have := hnil rfl; omega
      | some x =>
        obtain ⟨g, rfl, hg1, hg2, hcell⟩ := hsome x rfl
        have hback : (convert 27 9 (.slice (some ⟨g, 0, none⟩) 4 cap)).run Try.prog wr = .ok (.string (four n)) wr := by
          refine run_convert_bytes_back wr 27 9 5 ⟨g, 0, none⟩ cap (fourL n) Try.underlying27 Try.underlying5 Try.underlying9 ?_
          intro j hj
          rw [addr_add, hcell j hj, List.getElem?_map, List.take_of_length_le (Nat.le_refl 4), List.getElem?_eq_getElem hj]
          rfl
        clear hcell hsome hnil hlen hown
        go_wp2
        go_ret
        exact ⟨rfl, hbel⟩
end Go.Proofs.Ythfaokiiciebdaa
