/- A write that goes through: its pieces, and what is seen. Plain laws. No condition. -/
import Derived.Test.YtaeklleogniimaaGreatDoorOkP
namespace Go.Proofs.YtaeklleogniimaaGreatDoor
open Go.RowKit
set_option linter.unusedVariables false

theorem layB_two (l : List UInt8) (a : Nat) (t u : List UInt8) (hu : 0 < u.length) (ht : 0 < t.length) : layB (layB l a t) (a + t.length) u = layB l a (t ++ u) := by
  have h1 : (layB l a t).take (a + t.length) = (l ++ List.replicate (a - l.length) 0).take a ++ t := by
    unfold layB
    rw [List.take_left']
    simp only [List.length_append, List.length_take, List.length_replicate]
    omega
  have h2 : (layB l a t).drop (a + t.length + u.length) = l.drop (a + (t ++ u).length) := by
    unfold layB
    rw [List.drop_append, List.drop_eq_nil_of_le (by simp only [List.length_append, List.length_take, List.length_replicate]; omega), List.nil_append, List.drop_drop, List.length_append]
    congr 1
    simp only [List.length_append, List.length_take, List.length_replicate]
    omega
  have h3 : a + t.length ≤ (layB l a t).length := by rw [layB_length]; omega
  conv => lhs; unfold layB
  show ((layB l a t) ++ List.replicate (a + t.length - (layB l a t).length) 0).take (a + t.length) ++ u ++ (layB l a t).drop (a + t.length + u.length) = _
  rw [h2, show a + t.length - (layB l a t).length = 0 by omega, List.replicate_zero, List.append_nil, h1]
  conv => rhs; unfold layB
  rw [List.append_assoc _ t u]

def cutsP (id : Int) : Nat → Nat → ByteArray → List DPiece
  | 0, _, _ => []
  | m + 1, a, t => if t.size = 0 then [] else ⟨id, ((a / 64 : Nat) : Int), ((a % 64 : Nat) : Int), t.extract 0 (room a t)⟩ :: cutsP id m (a + room a t) (t.extract (room a t) t.size)
theorem cutsP_nil {id : Int} {m a : Nat} {t : ByteArray} (h : t.size = 0) : cutsP id m a t = [] := by
  cases m with
  | zero => rfl
  | succ m => unfold cutsP; rw [if_pos h]
theorem cutsP_cons {id : Int} {m a : Nat} {t : ByteArray} (hm : t.size ≤ m) (h : 0 < t.size) : cutsP id m a t = ⟨id, ((a / 64 : Nat) : Int), ((a % 64 : Nat) : Int), t.extract 0 (room a t)⟩ :: cutsP id (m - 1) (a + room a t) (t.extract (room a t) t.size) := by
  cases m with
  | zero => omega
  | succ m => conv => lhs; unfold cutsP
              rw [if_neg (by omega)]
              rfl
theorem toList_split (t : ByteArray) (n : Nat) (hn : n ≤ t.size) : (t.extract 0 n).data.toList ++ (t.extract n t.size).data.toList = t.data.toList := by
  have hl : t.data.toList.length = t.size := by rw [Array.length_toList]; rfl
  have h2 : (t.extract n t.size).data.toList = t.data.toList.drop n := by
    rw [ByteArray.data_extract, Array.toList_extract, List.extract_eq_take_drop, List.take_of_length_le]
    rw [List.length_drop, hl]
    omega
  rw [extract_take, h2, List.take_append_drop]
theorem extract_len (t : ByteArray) : t.data.toList.length = t.size := by rw [Array.length_toList]; rfl
def wrDone (P : PS) (i m a : Nat) (t : ByteArray) : PS :=
  { P with fuse := if 0 ≤ P.fuse then P.fuse - ((cutsP (idAt P i) m a t).length : Nat) else P.fuse, count := P.count + ((cutsP (idAt P i) m a t).length : Nat), wait := P.wait ++ cutsP (idAt P i) m a t, files := P.files.modify i fun f => { f with seen := layB f.seen a t.data.toList } }
theorem idAt_step (P : PS) (i a : Nat) (t : ByteArray) : idAt (wrStep P i a t) i = idAt P i := by
  unfold idAt wrStep
  show ((P.files.modify i _)[i]?.map PF.id).getD 0 = _
  rw [List.getElem?_modify]
  simp
  cases P.files[i]? <;> rfl
theorem cuts_len_le {id : Int} {m a : Nat} {t : ByteArray} (hm : t.size ≤ m) (h : 0 < t.size) : 1 ≤ (cutsP id m a t).length := by
  rw [cutsP_cons hm h]; simp
theorem wrGo_all : ∀ (m : Nat) (P : PS) (i a : Nat) (t : ByteArray), t.size ≤ m → 0 < t.size → (P.fuse < 0 ∨ ((cutsP (idAt P i) m a t).length : Int) ≤ P.fuse) → wrGo m P i a t = (0, wrDone P i m a t) := by
  intro m
  induction m with
  | zero => intro P i a t h1 h2; omega
  | succ m ih =>
    intro P i a t hm ht hf
    obtain ⟨r1, r2, r3⟩ := room_pos (a := a) ht
    have hc := cutsP_cons (id := idAt P i) (a := a) hm ht
    have hlen := cuts_len_le (id := idAt P i) (a := a) hm ht
    have hf0 : P.fuse ≠ 0 := by omega
    rw [wrGo_step hm ht hf0]
    have hes : (t.extract 0 (room a t)).size = room a t := by rw [ByteArray.size_extract]; omega
    show wrGo m _ _ _ _ = _
    replace hc : cutsP (idAt P i) (m + 1) a t = ⟨idAt P i, ((a / 64 : Nat) : Int), ((a % 64 : Nat) : Int), t.extract 0 (room a t)⟩ :: cutsP (idAt P i) m (a + room a t) (t.extract (room a t) t.size) := hc
    by_cases hrest : (t.extract (room a t) t.size).size = 0
    · rw [wrGo_done hrest]
      have hcn := cutsP_nil (id := idAt P i) (m := m) (a := a + room a t) hrest
      rw [hcn] at hc
      have hall : t.extract 0 (room a t) = t := by
        have : room a t = t.size := by rw [rest_size] at hrest; omega
        rw [this]
        exact ByteArray.extract_zero_size
      rw [hall] at hc ⊢
      unfold wrDone wrStep
      rw [hc]
      congr 2
      by_cases h0 : 0 < P.fuse
      · rw [if_pos h0, if_pos (by omega)]; rfl
      · rw [if_neg h0, if_neg (by omega)]
    · have hps : 0 < (t.extract (room a t) t.size).size := by omega
      have hid := idAt_step P i a (t.extract 0 (room a t))
      rw [hc] at hf
      rw [ih (wrStep P i a (t.extract 0 (room a t))) i (a + room a t) (t.extract (room a t) t.size) (by rw [rest_size]; omega) hps (by
        rw [hid]
        show (if 0 < P.fuse then P.fuse - 1 else P.fuse) < 0 ∨ _ ≤ (if 0 < P.fuse then P.fuse - 1 else P.fuse)
        simp only [List.length_cons] at hf
        split <;> omega)]
      unfold wrDone
      rw [hid, hc]
      congr 1
      unfold wrStep
      have hfz : (if 0 ≤ (if 0 < P.fuse then P.fuse - 1 else P.fuse) then (if 0 < P.fuse then P.fuse - 1 else P.fuse) - (((cutsP (idAt P i) m (a + room a t) (t.extract (room a t) t.size)).length : Nat) : Int) else (if 0 < P.fuse then P.fuse - 1 else P.fuse)) = (if 0 ≤ P.fuse then P.fuse - (((⟨idAt P i, ((a / 64 : Nat) : Int), ((a % 64 : Nat) : Int), t.extract 0 (room a t)⟩ :: cutsP (idAt P i) m (a + room a t) (t.extract (room a t) t.size) : List DPiece).length : Nat) : Int) else P.fuse) := by
        simp only [List.length_cons]
        by_cases h0 : 0 < P.fuse
        · rw [if_pos h0, if_pos (by omega), if_pos (by omega)]; omega
        · rw [if_neg h0, if_neg (by omega), if_neg (by omega)]
      have hct : P.count + 1 + (((cutsP (idAt P i) m (a + room a t) (t.extract (room a t) t.size)).length : Nat) : Int) = P.count + (((⟨idAt P i, ((a / 64 : Nat) : Int), ((a % 64 : Nat) : Int), t.extract 0 (room a t)⟩ :: cutsP (idAt P i) m (a + room a t) (t.extract (room a t) t.size) : List DPiece).length : Nat) : Int) := by
        simp only [List.length_cons]; omega
      have hwt : (P.wait ++ [⟨idAt P i, ((a / 64 : Nat) : Int), ((a % 64 : Nat) : Int), t.extract 0 (room a t)⟩]) ++ cutsP (idAt P i) m (a + room a t) (t.extract (room a t) t.size) = P.wait ++ (⟨idAt P i, ((a / 64 : Nat) : Int), ((a % 64 : Nat) : Int), t.extract 0 (room a t)⟩ :: cutsP (idAt P i) m (a + room a t) (t.extract (room a t) t.size)) := by simp
      have hfl : (P.files.modify i fun f => { f with seen := layB f.seen a (t.extract 0 (room a t)).data.toList }).modify i (fun f => { f with seen := layB f.seen (a + room a t) (t.extract (room a t) t.size).data.toList }) = P.files.modify i fun f => { f with seen := layB f.seen a t.data.toList } := by
        rw [List.modify_modify_eq]
        congr 1
        funext f
        show ({ f with seen := layB (layB f.seen a (t.extract 0 (room a t)).data.toList) (a + room a t) (t.extract (room a t) t.size).data.toList } : PF) = _
        have h5 : (t.extract 0 (room a t)).data.toList.length = room a t := by rw [extract_len, hes]
        have := layB_two f.seen a (t.extract 0 (room a t)).data.toList (t.extract (room a t) t.size).data.toList (by rw [extract_len]; exact hps) (by rw [h5]; exact r1)
        rw [h5, toList_split t _ r2] at this
        rw [this]
      show (PS.mk _ _ _ _ _ _ _) = PS.mk _ _ _ _ _ _ _
      rw [hfz, hct, hwt, hfl]
theorem write_eq {P : PS} {s : ByteArray} {i a : Nat} {t : ByteArray} (ho : P.off = false) (hf : findI P.files s = some i) (hr : (a : Int) ≤ 2097152 - (t.size : Int)) :
    P.write s (a : Int) t = if 0 < t.size ∧ P.most - (usedP P.files : Nat) < ((secs (a + t.size) : Nat) : Int) - ((secsI P i : Nat) : Int) then (7, P) else wrGo t.size P i a t := by
  unfold PS.write
  rw [if_neg (by rw [ho]; decide), hf]
  show (if _ then _ else _) = _
  rw [if_neg (by omega)]
  rfl
end Go.Proofs.YtaeklleogniimaaGreatDoor
