/- The walk of frame.All: payloads in frames, one behind the other. Condition: at most 1000 payloads. -/
import Derived.Test.YthfaokiiciebdaaFrame
import Derived.Test.YthfaokiiciebdaaBuilder
namespace Go.Proofs.Ythfaokiiciebdaa
open Go.RowKit

def framesL (ss : List ByteArray) : List UInt8 := ss.flatMap fun s => (frm s).data.toList
def frames (ss : List ByteArray) : ByteArray := ⟨(framesL ss).toArray⟩

def AllSays (ss : List ByteArray) (w : World) (e : Ending) (w' : World) : Prop :=
  ((e = .returned (.tuple #[.string (frames ss), .int .i64 0]) ∧ ∀ s ∈ ss, s.size ≤ 65536) ∨ (e = .returned (.tuple #[.string ByteArray.empty, .int .i64 4]) ∧ ∃ s ∈ ss, 65536 < s.size)) ∧ Below w.heap.size w w'

theorem frm_size (s : ByteArray) : (frm s).size = 10 + s.size := by
  unfold frm
  simp only [ByteArray.size_append]
  have h1 : sign2.size = 2 := rfl
  rw [h1, four_size, four_size]

theorem framesL_length (ss : List ByteArray) (h : ∀ s ∈ ss, s.size ≤ 65536) : (framesL ss).length ≤ 65546 * ss.length := by
  unfold framesL
  induction ss with
  | nil => simp
  | cons s ss ih =>
    have h1 := h s (by simp)
    have h2 := ih (fun t ht => h t (by simp [ht]))
    have h3 : (frm s).data.toList.length = 10 + s.size := by rw [← frm_size]; simp
    rw [List.flatMap_cons, List.length_append, List.length_cons, h3]
    omega
theorem framesL_snoc (ss : List ByteArray) (s : ByteArray) : framesL (ss ++ [s]) = framesL ss ++ (frm s).data.toList := by
  unfold framesL
  rw [List.flatMap_append]
  simp

set_option maxHeartbeats 1000000 in
theorem all_any (ad : Option Addr) (cap : Nat) (ss : List ByteArray) (w : World) (hn : ss.length ≤ 1000) (hz : ∀ s ∈ ss, s.size ≤ maxLen) (hat : StrsAt w ad ss) :
    Calls Try.prog 21 #[.slice ad ss.length cap] w (AllSays ss w) := by
  have Hat := Lib.hid hat
  have Hz := Lib.hid hz
  clear hat hz
  go_enter Try.func21, Try.ntmps21
  go_wp2
  go_loopw [11] (fun i wr => ∃ k : Nat, k ≤ ss.length ∧ i = .int .i64 k ∧ Hid (Lib.IsBuilder 56 5 w.heap.size w.heap.size (Lib.byteCells (framesL (ss.take k))) wr) ∧ Hid (∀ s ∈ ss.take k, s.size ≤ 65536) ∧ Below w.heap.size w wr ∧ w.heap.size < wr.heap.size) (fun i _ => ss.length - (intOf i).toNat)
  case atStart => exact ⟨0, Nat.zero_le _, rfl, Lib.fresh_isBuilder _ _ _, (fun s hs => by simp at hs), (Below.refl _ _).alloc (Nat.le_refl _) _, by simp⟩
  case round =>
    obtain ⟨k, hk, rfl, hbu, hok, hbel, hsz⟩ := hrel
    by_cases hlt : k < ss.length
    · obtain ⟨b, off, rfl, hb, hc⟩ : ∃ b off, ad = some ⟨b, off, none⟩ ∧ b < w.heap.size ∧ ∀ k (hk : k < ss.length), w.cell? ⟨b, off + k, none⟩ = some (.string ss[k]) := by
        rcases Hat.out with h | h
        · rw [h] at hlt; simp at hlt
        · exact h
      have hck : wr.cell? ⟨b, off + k, none⟩ = some (.string ss[k]) := by rw [hbel.cell (p := ⟨b, off + k, none⟩) hb]; exact hc k hlt
      have hm := Hz.out ss[k] (List.getElem_mem hlt)
      have hsn := Lib.hid (show ss.take (k + 1) = ss.take k ++ [ss[k]] by rw [List.take_succ_eq_append_getElem hlt])
      have hfl : (framesL (ss.take k)).length ≤ 65546 * 1000 := by
        have h1 := framesL_length (ss.take k) hok.out
        have h2 : (ss.take k).length ≤ 1000 := by rw [List.length_take]; omega
        omega
      clear hc
      by_cases hs : ss[k].size ≤ 65536
      · have hfs := frm_size ss[k]
        have hfs2 : (frm ss[k]).size ≤ 65546 := by omega
        clear hfs
        go_wp2_with fail
        refine (frame_any _ _ hs).mono ?_
        rintro e w1 ⟨rfl, hb1⟩
        have hsz1 := hb1.size
        have hbu1 : Lib.IsBuilder 56 5 w.heap.size w.heap.size (Lib.byteCells (framesL (ss.take k))) w1 :=
          builder_below hbu.out hb1
        have Hbu1 := Lib.hid hbu1
        clear hbu1
        go_wp2_with fail
        refine (writeString_any w.heap.size w.heap.size _ _ _ Hbu1.out (by rw [Lib.byteCells_length]; omega) (by omega)).mono ?_
        rintro e w2 ⟨rfl, hat2, hb2⟩
        have hsz2 := hb2.size
        have Hat2 := Lib.hid hat2
        clear hat2
        go_wp2
        go_roundw
        case rel =>
          refine ⟨k + 1, by omega, by go_num, ?_, ?_, (hbel.trans (hb1.mono (by omega))).trans hb2, by omega⟩
          · refine Or.inr ?_
            rw [hsn.out, framesL_snoc]
            have := Hat2.out
            simpa [Lib.byteCells, Lib.strCells] using this
          · intro t ht
            rw [hsn.out, List.mem_append] at ht
            rcases ht with ht | ht
            · exact hok.out t ht
            · simp at ht; subst ht; exact hs
        case measure => simp [intOf]; omega
      · go_wp2_with fail
        refine (frame_long _ _ (by omega) hm).mono ?_
        rintro e w1 ⟨rfl, rfl⟩
        go_wp2
        go_ret2
        exact ⟨Or.inr ⟨rfl, ss[k], List.getElem_mem hlt, by omega⟩, hbel⟩
    · have hk' := Lib.hid (show ss.take k = ss from List.take_of_length_le (by omega))
      go_wp2_with fail
      refine (Try.Builder_String_any w.heap.size w.heap.size _ _ hbu.out (by omega)).mono ?_
      rintro e w1 ⟨rfl, hb1⟩
      rw [hk'.out]
      go_wp2
      go_ret2
      refine ⟨Or.inl ⟨rfl, ?_⟩, hbel.trans hb1⟩
      have := hok.out
      rw [hk'.out] at this
      exact this
end Go.Proofs.Ythfaokiiciebdaa
