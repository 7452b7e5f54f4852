/- The walks of Scan: all frames in bytes (frame and barqueref02), by one plain function. Condition: texts of at most 2^39 bytes. -/
import Derived.Test.YthfaokiiciebdaaOne
namespace Go.Proofs.Ythfaokiiciebdaa
open Go.RowKit

/-- from place a on: the payloads, where it ends, how many bytes are lost -/
def scanF : Nat → ByteArray → Nat → List ByteArray × Nat × Nat
  | 0, _, a => ([], a, 0)
  | f + 1, s, a =>
    if a < s.size then
      if (one (s.extract a s.size)).2.2 = 3 then ([], a, 0)
      else if (one (s.extract a s.size)).2.2 = 0 then
        ((one (s.extract a s.size)).1 :: (scanF f s (a + (one (s.extract a s.size)).2.1)).1, (scanF f s (a + (one (s.extract a s.size)).2.1)).2.1, (scanF f s (a + (one (s.extract a s.size)).2.1)).2.2)
      else ((scanF f s (a + 1)).1, (scanF f s (a + 1)).2.1, (scanF f s (a + 1)).2.2 + 1)
    else ([], a, 0)
def scan (s : ByteArray) : List ByteArray × Nat × Nat := scanF s.size s 0

/-- what is found so far, and what is still to come -/
def ScanAt (s : ByteArray) (a k : Nat) (l : List ByteArray) : Prop :=
  ∃ f, s.size ≤ a + f ∧ scan s = (l ++ (scanF f s a).1, (scanF f s a).2.1, k + (scanF f s a).2.2)

theorem scanAt_start (s : ByteArray) : ScanAt s 0 0 [] := ⟨s.size, by omega, by unfold scan; simp⟩
theorem scanAt_end {s : ByteArray} {a k : Nat} {l : List ByteArray} (h : ScanAt s a k l) (ha : s.size ≤ a) : scan s = (l, a, k) := by
  obtain ⟨f, _, h⟩ := h
  rw [h]
  cases f with
  | zero => simp [scanF]
  | succ f => rw [scanF, if_neg (by omega)]; simp
theorem scanAt_short {s : ByteArray} {a k : Nat} {l : List ByteArray} (h : ScanAt s a k l) {p : ByteArray} {n e : Nat} (ho : one (s.extract a s.size) = (p, n, e)) (he : e = 3) : scan s = (l, a, k) := by
  obtain ⟨f, _, h⟩ := h
  rw [h]
  cases f with
  | zero => simp [scanF]
  | succ f =>
    by_cases ha : a < s.size
    · rw [scanF, if_pos ha, if_pos (by rw [ho]; exact he)]; simp
    · rw [scanF, if_neg ha]; simp
theorem scanAt_ok {s : ByteArray} {a k : Nat} {l : List ByteArray} (h : ScanAt s a k l) (ha : a < s.size) {p : ByteArray} {n e : Nat} (ho : one (s.extract a s.size) = (p, n, e)) (he : e = 0) : ScanAt s (a + n) k (l ++ [p]) := by
  obtain ⟨f, hf, h⟩ := h
  have hn := one_ok ho he
  cases f with
  | zero => omega
  | succ f =>
    refine ⟨f, by omega, ?_⟩
    rw [h, scanF, if_pos ha, if_neg (by rw [ho]; show ¬ e = 3; omega), if_pos (by rw [ho]; exact he), ho]
    simp
theorem scanAt_lost {s : ByteArray} {a k : Nat} {l : List ByteArray} (h : ScanAt s a k l) (ha : a < s.size) {p : ByteArray} {n e : Nat} (ho : one (s.extract a s.size) = (p, n, e)) (he : e ≠ 0) (he3 : e ≠ 3) : ScanAt s (a + 1) (k + 1) l := by
  obtain ⟨f, hf, h⟩ := h
  cases f with
  | zero => omega
  | succ f =>
    refine ⟨f, by omega, ?_⟩
    rw [h, scanF, if_pos ha, if_neg (by rw [ho]; exact he3), if_neg (by rw [ho]; exact he)]
    simp
    omega

theorem info_string : (Try.prog.info? 9).map (fun i => (i.zero, i.size, i.bytes)) = some (some (.string ByteArray.empty), 1, 16) := by kernel_rfl

def ScanSays (s : ByteArray) (w : World) (e : Ending) (w' : World) : Prop :=
  ∃ v l a k, e = .returned (.tuple #[v, .int .i64 (a : Nat), .int .i64 (k : Nat)]) ∧ scan s = (l, a, k) ∧ w'.ownsRow w.heap.size 9 1 v l.length (l.map Value.string) ∧ Below w.heap.size w w' ∧ l.length ≤ s.size

set_option maxHeartbeats 1000000 in
theorem scan_any (s : ByteArray) (w : World) (hs : s.size ≤ 549755813888) :
    Calls Try.prog 23 #[.string s] w (ScanSays s w) := by
  go_enter Try.func23, Try.ntmps23
  go_wp2
  go_loopw [5, 6, 7] (fun v i j wr => ∃ (a k : Nat) (l : List ByteArray), i = .int .i64 a ∧ j = .int .i64 k ∧ a ≤ s.size ∧ k ≤ a ∧ l.length ≤ a ∧ Hid (ScanAt s a k l) ∧ wr.ownsRow w.heap.size 9 1 v l.length (l.map Value.string) ∧ Below w.heap.size w wr) (fun _ i _ _ => s.size - (intOf i).toNat)
  case atStart => exact ⟨0, 0, [], rfl, rfl, by omega, by omega, by simp, scanAt_start s, World.ownsRow_nil _ _ _ _, Below.refl _ _⟩
  case round =>
    obtain ⟨a, k, l, rfl, rfl, ha, hk, hl, hat, hown, hbel⟩ := hrel
    by_cases hlt : a < s.size
    · obtain ⟨p, n, e, ho⟩ : ∃ p n e, one (s.extract a s.size) = (p, n, e) := ⟨_, _, _, rfl⟩
      have Ho := Lib.hid ho
      have hsz : (s.extract a s.size).size = s.size - a := by simp
      clear ho
      by_cases he : e = 0
      · have hn := one_ok Ho.out he
        have hn2 : a + n ≤ s.size := by omega
        have hn1 : 10 ≤ n := hn.2.1
        have he2 := Lib.hid he
        clear hn hsz he
        go_wp2_with fail
        refine (one_any _ _ (by simp; omega)).mono ?_
        rintro e' w1 ⟨rfl, nq, hw1⟩
        rw [Ho.out, he2.out]
        have hown1 : w1.ownsRow w.heap.size 9 1 u5 l.length (l.map Value.string) := by rw [hw1]; exact hown
        have hbel1 : Below w.heap.size w w1 := by rw [hw1]; exact below_drewN hbel nq
        clear hw1
        go_wp2_with (at_builtin; refine append_one rfl _ _ 38 rfl w.heap.size 9 1 16 Try.underlying38 _ info_string rfl (by decide) _ _ _ rfl hown1 [.string p] rfl rfl (by simp [Value.oneCell']) ?c1 ?c2 ?c3 ?_)
        case c1 => unfold maxLen; omega
        case c2 => omega
        case c3 => exact hbel1.size
        intro v' w2 hown3 hb3
        go_wp2
        go_roundw
        case rel => exact ⟨a + n, k, l ++ [p], by go_num, rfl, by omega, by omega, by simp; omega, scanAt_ok hat.out hlt Ho.out he2.out, by simpa using hown3, hbel1.trans hb3⟩
        case measure => simp [intOf]; omega
      · by_cases he3 : e = 3
        · have he2 := Lib.hid he3
          clear he hsz he3
          go_wp2_with fail
          refine (one_any _ _ (by simp; omega)).mono ?_
          rintro e' w1 ⟨rfl, nq, rfl⟩
          rw [Ho.out, he2.out]
          go_wp2
          go_ret3
          exact ⟨_, l, a, k, rfl, scanAt_short hat.out Ho.out he2.out, hown, below_drewN hbel nq, by omega⟩
        · have hb0 : ((e : Int) == 0) = false := by simp; omega
          have hb3 : ((e : Int) == 3) = false := by simp; omega
          have H0 := Lib.hid he
          have H3 := Lib.hid he3
          clear he hsz he3
          go_wp2_with fail
          refine (one_any _ _ (by simp; omega)).mono ?_
          rintro e' w1 ⟨rfl, nq, rfl⟩
          rw [Ho.out]
          go_wp2
          go_roundw
          case rel => exact ⟨a + 1, k + 1, l, by go_num, by go_num, by omega, by omega, by omega, scanAt_lost hat.out hlt Ho.out H0.out H3.out, hown, below_drewN hbel nq⟩
          case measure => simp [intOf]; omega
    · go_wp2
      go_ret3
      exact ⟨_, l, a, k, rfl, scanAt_end hat.out (by omega), hown, hbel, by omega⟩

set_option maxHeartbeats 1000000 in
theorem refScan_any (s : ByteArray) (w : World) (hs : s.size ≤ 549755813888) :
    Calls Try.prog 24 #[.string s] w (ScanSays s w) := by
  go_enter Try.func24, Try.ntmps24
  go_wp2
  go_loopw [5, 6, 7] (fun v i j wr => ∃ (a k : Nat) (l : List ByteArray), i = .int .i64 a ∧ j = .int .i64 k ∧ a ≤ s.size ∧ k ≤ a ∧ l.length ≤ a ∧ Hid (ScanAt s a k l) ∧ wr.ownsRow w.heap.size 9 1 v l.length (l.map Value.string) ∧ Below w.heap.size w wr) (fun _ i _ _ => s.size - (intOf i).toNat)
  case atStart => exact ⟨0, 0, [], rfl, rfl, by omega, by omega, by simp, scanAt_start s, World.ownsRow_nil _ _ _ _, Below.refl _ _⟩
  case round =>
    obtain ⟨a, k, l, rfl, rfl, ha, hk, hl, hat, hown, hbel⟩ := hrel
    by_cases hlt : a < s.size
    · obtain ⟨p, n, e, ho⟩ : ∃ p n e, one (s.extract a s.size) = (p, n, e) := ⟨_, _, _, rfl⟩
      have Ho := Lib.hid ho
      have hsz : (s.extract a s.size).size = s.size - a := by simp
      clear ho
      by_cases he : e = 0
      · have hn := one_ok Ho.out he
        have hn2 : a + n ≤ s.size := by omega
        have hn1 : 10 ≤ n := hn.2.1
        have he2 := Lib.hid he
        clear hn hsz he
        go_wp2_with fail
        refine (refOne_any _ _ (by simp; omega)).mono ?_
        rintro e' w1 ⟨rfl, hb1⟩
        rw [Ho.out, he2.out]
        have hown1 : w1.ownsRow w.heap.size 9 1 u5 l.length (l.map Value.string) := ownsRow_below hown hb1
        have hbel1 : Below w.heap.size w w1 := below_step hbel hb1
        go_wp2_with (at_builtin; refine append_one rfl _ _ 38 rfl w.heap.size 9 1 16 Try.underlying38 _ info_string rfl (by decide) _ _ _ rfl hown1 [.string p] rfl rfl (by simp [Value.oneCell']) ?c1 ?c2 ?c3 ?_)
        case c1 => unfold maxLen; omega
        case c2 => omega
        case c3 => exact hbel1.size
        intro v' w2 hown3 hb3
        go_wp2
        go_roundw
        case rel => exact ⟨a + n, k, l ++ [p], by go_num, rfl, by omega, by omega, by simp; omega, scanAt_ok hat.out hlt Ho.out he2.out, by simpa using hown3, hbel1.trans hb3⟩
        case measure => simp [intOf]; omega
      · by_cases he3 : e = 3
        · have he2 := Lib.hid he3
          clear he hsz he3
          go_wp2_with fail
          refine (refOne_any _ _ (by simp; omega)).mono ?_
          rintro e' w1 ⟨rfl, hb1⟩
          rw [Ho.out, he2.out]
          have hown1 : w1.ownsRow w.heap.size 9 1 u5 l.length (l.map Value.string) := ownsRow_below hown hb1
          go_wp2
          go_ret3
          exact ⟨_, l, a, k, rfl, scanAt_short hat.out Ho.out he2.out, hown1, below_step hbel hb1, by omega⟩
        · have hb0 : ((e : Int) != 0) = true := by rw [bne_iff_ne]; omega
          have hb3 : ((e : Int) == 3) = false := by simp; omega
          have H0 := Lib.hid he
          have H3 := Lib.hid he3
          clear he hsz he3
          go_wp2_with fail
          refine (refOne_any _ _ (by simp; omega)).mono ?_
          rintro e' w1 ⟨rfl, hb1⟩
          rw [Ho.out]
          have hown1 : w1.ownsRow w.heap.size 9 1 u5 l.length (l.map Value.string) := ownsRow_below hown hb1
          go_wp2
          go_roundw
          case rel => exact ⟨a + 1, k + 1, l, by go_num, by go_num, by omega, by omega, by omega, scanAt_lost hat.out hlt Ho.out H0.out H3.out, hown1, below_step hbel hb1⟩
          case measure => simp [intOf]; omega
    · go_wp2
      go_ret3
      exact ⟨_, l, a, k, rfl, scanAt_end hat.out (by omega), hown, hbel, by omega⟩
end Go.Proofs.Ythfaokiiciebdaa
