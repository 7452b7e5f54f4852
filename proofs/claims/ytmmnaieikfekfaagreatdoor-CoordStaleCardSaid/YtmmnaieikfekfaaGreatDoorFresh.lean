/- The walk of the law's fresh: a world with a coordinator that begins. No condition. -/
import Derived.Test.YtmmnaieikfekfaaGreatDoorTick
namespace Go.Proofs.YtmmnaieikfekfaaGreatDoor
open Go.RowKit

def worldVals (c bk : Nat) (id n : Int) : List Value := [.pointer (some ⟨c, 0, none⟩), .pointer (some ⟨bk, 0, none⟩), .int .i64 id, .int .i64 n, .slice none 0 0, .slice none 0 0, .int .i64 0]
def FreshSays (id n stamp : Int) (w : World) (e : Ending) (w' : World) : Prop :=
  ∃ wb bk mp c t, e = .returned (.pointer (some ⟨wb, 0, none⟩)) ∧ Blk w' wb (worldVals c bk id n) 49 ∧ BookAt w' bk mp ∧ w'.heap[mp]? = some (.map #[] 0) ∧
    CoordAt w' c (newCoord id n stamp (.pointer (some ⟨bk, 0, none⟩)) (.pointer (some ⟨t, 0, none⟩))) ∧ TallyAt w' t n.toNat (List.replicate 9 false) ∧ w.heap.size ≤ wb ∧ w.heap.size ≤ c ∧ w.heap.size ≤ t ∧ Below w.heap.size w w'

set_option maxRecDepth 100000 in
set_option maxHeartbeats 2000000 in
theorem fresh_ok (id n stamp : Int) (w : World) (h : NewOk id n stamp) : Calls Tryz.prog 20 #[.int .i64 id, .int .i64 n, .int .i64 stamp] w (FreshSays id n stamp w) := by
  have hn1 := h.2.1
  have hn9 := h.2.2
  have H := Lib.hid h
  clear h
  go_enter Tryz.func20, Tryz.ntmps20
  go_wp2_with fail
  refine (ideal_any w).mono ?_
  rintro e w1 ⟨bk, mp, rfl, hb0, hm0, hbk, hmp, hb1⟩
  have Hbk := Lib.hid hbk
  have Hmp := Lib.hid hmp
  clear hbk hmp
  go_wp2_with fail
  refine (newCoord_any id n stamp bk mp _ H.out Hbk.out).mono ?_
  rintro e w2 ⟨c, t, rfl, hc0, ht0, hc, ht, hb2⟩
  have Hc := Lib.hid hc
  have Ht := Lib.hid ht
  have Hbk2 := Lib.hid (show BookAt w2 bk mp from Blk.below Hbk.out hb2)
  have hmlt : mp < w1.heap.size := by
    rcases Nat.lt_or_ge mp w1.heap.size with h' | h'
    · exact h'
    · have := Hmp.out; simp [Array.getElem?_eq_none h'] at this
  have Hmp2 := Lib.hid (show w2.heap[mp]? = some (.map #[] 0) by rw [hb2.block mp hmlt]; exact Hmp.out)
  have hs1 := hb1.size
  have hb02 := below_step hb1 hb2
  clear hc ht hb1 hb2 Hbk Hmp hmlt
  go_wp2_with fail
  go_ret
  have hml2 : mp < w2.heap.size := by
    rcases Nat.lt_or_ge mp w2.heap.size with h' | h'
    · exact h'
    · have := Hmp2.out; simp [Array.getElem?_eq_none h'] at this
  exact ⟨w2.heap.size, bk, mp, c, t, rfl, Blk.new w2 (worldVals c bk id n) _, Blk.alloc Hbk2.out _, by rw [Below.heap_alloc _ _ _ hml2]; exact Hmp2.out, ⟨Hc.out.1.alloc _, Hc.out.2⟩, ⟨Ht.out.1.alloc _, Ht.out.2⟩, hb02.size, by omega, by omega, hb02.alloc hb02.size _⟩
set_option maxRecDepth 100000 in
theorem fresh_no (id n stamp : Int) (w : World) (h : ¬ NewOk id n stamp) : Calls Tryz.prog 20 #[.int .i64 id, .int .i64 n, .int .i64 stamp] w fun e w' => e = .returned (.pointer none) ∧ Below w.heap.size w w' := by
  have H := Lib.hid h
  clear h
  go_enter Tryz.func20, Tryz.ntmps20
  go_wp2_with fail
  refine (ideal_any w).mono ?_
  rintro e w1 ⟨bk, mp, rfl, hb0, hm0, hbk, hmp, hb1⟩
  have Hbk := Lib.hid hbk
  clear hbk hmp
  go_wp2_with fail
  refine (newCoord_no id n stamp bk mp _ H.out Hbk.out).mono ?_
  rintro e wx ⟨rfl, rfl⟩
  go_wp2_with fail
  go_ret
  exact ⟨rfl, hb1⟩
end Go.Proofs.YtmmnaieikfekfaaGreatDoor
