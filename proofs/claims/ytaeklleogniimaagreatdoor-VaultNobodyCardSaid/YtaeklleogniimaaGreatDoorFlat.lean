/- A device's plain state, what lasts of a piece, and what a text laid into a file's bytes leaves in memory. Conditions: sizes. -/
import Derived.Test.YtaeklleogniimaaGreatDoorRead
import Derived.Lib.BufferWrite
import Derived.Lib.SlBuf
namespace Go.Proofs.YtaeklleogniimaaGreatDoor
open Go.RowKit
set_option linter.unusedVariables false

structure PF where
  id : Int
  name : ByteArray
  last : List UInt8
  seen : List UInt8
structure PS where
  files : List PF
  wait : List DPiece
  most : Int
  fuse : Int
  off : Bool
  count : Int
  made : Int
def DFile.pl (f : DFile) : PF := ⟨f.id, f.name, f.last, f.seen⟩
def DSt.pl (S : DSt) : PS := ⟨S.files.map DFile.pl, S.wait, S.most, S.fuse, S.off, S.count, S.made⟩

/-- bytes with others in their place, noughts in a gap -/
def layB (l : List UInt8) (a : Nat) (t : List UInt8) : List UInt8 := (l ++ List.replicate (a - l.length) 0).take a ++ t ++ l.drop (a + t.length)
theorem layB_length (l : List UInt8) (a : Nat) (t : List UInt8) : (layB l a t).length = max l.length (a + t.length) := by
  unfold layB
  simp only [List.length_append, List.length_take, List.length_replicate, List.length_drop]
  omega
/-- one device's step: what it is, what it turned, where it lies -/
structure Dev (b : Nat) (S : DSt) (w : World) (S' : DSt) (w' : World) : Prop where
  at_ : DiskAt w' b S'
  touch : Touch (foot b S) w w'
  foot_ : ∀ k, foot b S' k → foot b S k ∨ w.heap.size ≤ k
theorem Dev.refl {b : Nat} {S : DSt} {w : World} (h : DiskAt w b S) : Dev b S w S w := ⟨h, Touch.refl _ _, fun _ hk => Or.inl hk⟩
theorem Dev.trans {b : Nat} {S S1 S2 : DSt} {w w1 w2 : World} (h1 : Dev b S w S1 w1) (h2 : Dev b S1 w1 S2 w2) : Dev b S w S2 w2 :=
  ⟨h2.at_, ⟨h2.touch.os.trans h1.touch.os, h2.touch.tape.trans h1.touch.tape, h2.touch.output.trans h1.touch.output, Nat.le_trans h1.touch.size h2.touch.size, fun k hk hn => by
    rw [h2.touch.block k (Nat.lt_of_lt_of_le hk h1.touch.size) (fun hf => by
      rcases h1.foot_ k hf with h | h
      · exact hn h
      · omega)]
    exact h1.touch.block k hk hn⟩, fun k hk => by
    rcases h2.foot_ k hk with h | h
    · exact h1.foot_ k h
    · right; have := h1.touch.size; omega⟩
theorem Dev.below {b : Nat} {S S' : DSt} {w w1 w2 : World} (h : Dev b S w S' w1) (hb : Below w1.heap.size w1 w2) : Dev b S w S' w2 :=
  h.trans ⟨h.at_.below hb, Touch.of_below hb, fun _ hk => Or.inl hk⟩
theorem Dev.after {b : Nat} {S S' : DSt} {w w1 w2 : World} (hb : Below w.heap.size w w1) (h : Dev b S w1 S' w2) : Dev b S w S' w2 :=
  ⟨h.at_, (Touch.of_below hb).trans h.touch, fun k hk => by
    rcases h.foot_ k hk with h1 | h1
    · exact Or.inl h1
    · right; have := hb.size; omega⟩

theorem bytesVals_length (l : List UInt8) : (bytesVals l).length = l.length := by simp [bytesVals]
theorem bytesVals_lay (l : List UInt8) (a : Nat) (t : List UInt8) (ht : 0 < t.length) : ((bytesVals l ++ noughts (a + t.length - l.length)).take a ++ bytesVals t ++ (bytesVals l ++ noughts (a + t.length - l.length)).drop (a + t.length)) = bytesVals (layB l a t) := by
  unfold layB
  have e1 : bytesVals l ++ noughts (a + t.length - l.length) = bytesVals (l ++ List.replicate (a + t.length - l.length) 0) := by
    unfold bytesVals noughts
    rw [List.map_append, List.map_replicate]
    rfl
  rw [e1]
  have e2 : ∀ x : List UInt8, ∀ n, (bytesVals x).take n = bytesVals (x.take n) := fun x n => by unfold bytesVals; rw [List.map_take]
  have e3 : ∀ x : List UInt8, ∀ n, (bytesVals x).drop n = bytesVals (x.drop n) := fun x n => by unfold bytesVals; rw [List.map_drop]
  have e4 : ∀ x y : List UInt8, bytesVals x ++ bytesVals y = bytesVals (x ++ y) := fun x y => by unfold bytesVals; rw [List.map_append]
  rw [e2, e3, e4, e4]
  congr 1
  congr 1
  · congr 1
    rw [List.take_append, List.take_append, List.take_replicate, List.take_replicate]
    congr 2
    omega
  · rw [List.drop_append]
    rw [List.drop_replicate]
    rw [show a + t.length - l.length - (a + t.length - l.length) = 0 by omega]
    simp

/-- 'copy(b[at:], t)' into an owned row of bytes -/
theorem run_copy_text (w : World) (g n cap p : Nat) (xs : List Value) (t : ByteArray) (ty : TypeId) (hown : w.ownsRow 0 5 1 (.slice (some ⟨g, 0, none⟩) n cap) n xs) (hfit : p + t.size ≤ n) :
    ∃ w', (Builtin.copy_ #[134, 9] ty #[.slice (some ⟨g, p, none⟩) (n - p) (cap - p), .string t]).run Tryz.prog w = .ok (goInt t.size) w' ∧
      w'.ownsRow 0 5 1 (.slice (some ⟨g, 0, none⟩) n cap) n (xs.take p ++ bytesVals t.data.toList ++ xs.drop (p + t.size)) ∧ Touch (fun k => k = g) w w' := by
  obtain ⟨h1, h2⟩ := hown
  rcases h2 with ⟨h2, _⟩ | ⟨g', cap', cur, hv, _, hb, hnc, hc, hcs, ht⟩
  · cases h2
  · injection hv with hv1 _ hv2
    injection hv1 with hv1
    injection hv1 with hv1
    subst hv1; subst hv2
    rw [Nat.mul_one] at h1 hcs ht
    have hr := Lib.run_copy_row_string (P := Tryz.prog) w 134 9 ty 5 g p (n - p) (cap - p) t cur 5 Tryz.underlying134 (by kernel_rfl) hb (by omega) (by omega)
    refine ⟨_, hr, ⟨?_, Or.inr ⟨g, cap, _, rfl, Nat.zero_le _, setRow_heap w g cur _ 5 _ hb, hnc, hc, ?_, ?_⟩⟩, ?_⟩
    · have : t.data.toList.length = t.size := by rw [Array.length_toList]; rfl
      simp only [List.length_append, List.length_take, List.length_drop, bytesVals_length]
      omega
    · have : t.data.toList.length = t.size := by rw [Array.length_toList]; rfl
      have h3 : cur.toList.length = cap := by rw [Array.length_toList]; exact hcs
      simp only [List.size_toArray, List.length_append, List.length_take, List.length_drop, Lib.byteCells_length]
      omega
    · have h3 : cur.toList.length = cap := by rw [Array.length_toList]; exact hcs
      have h4 : t.data.toList.length = t.size := by rw [Array.length_toList]; rfl
      rw [Nat.mul_one]
      show List.take n (List.take p cur.toList ++ bytesVals t.data.toList ++ List.drop (p + t.size) cur.toList) = _
      have h5 : cur.toList = xs ++ cur.toList.drop n := by rw [← ht, List.take_append_drop]
      generalize cur.toList.drop n = r at h5
      rw [h5, List.take_append_of_le_length (show p ≤ xs.length by omega), List.drop_append_of_le_length (show p + t.size ≤ xs.length by omega), ← List.append_assoc]
      rw [List.take_left' (by simp only [List.length_append, List.length_take, List.length_drop, bytesVals_length]; omega)]
    · exact ⟨rfl, rfl, rfl, by simp, fun j _ hj => setRow_other w g j _ hj⟩

theorem touch1_set {a w : World} {b o : Nat} (h : Touch (fun k => k = b) a w) (v : Value) : Touch (fun k => k = b) a (w.setCell ⟨b, o, none⟩ v) := h.set (p := ⟨b, o, none⟩) (Or.inl rfl) v
/-- a file whose lasting bytes grew: the row known, the field stored -/
theorem file_grew_last {w w1 : World} {f : DFile} {g n cap : Nat} {xs : List Value} (hF : FileAt w f) (hT : Touch (fun k => f.lv.ownBlock = some k) w w1) (hrow : w1.ownsRow 0 5 1 (.slice (some ⟨g, 0, none⟩) n cap) n xs) (hg : f.lv.ownBlock = some g ∨ g = w.heap.size) :
    Blk (w1.setCell ⟨f.g, 2, none⟩ (.slice (some ⟨g, 0, none⟩) n cap)) f.g [.int .i64 f.id, .string f.name, .slice (some ⟨g, 0, none⟩) n cap, f.sv] 136 ∧
    (w1.setCell ⟨f.g, 2, none⟩ (.slice (some ⟨g, 0, none⟩) n cap)).ownsRow 0 5 1 (.slice (some ⟨g, 0, none⟩) n cap) n xs ∧
    (w1.setCell ⟨f.g, 2, none⟩ (.slice (some ⟨g, 0, none⟩) n cap)).ownsRow 0 5 1 f.sv f.seen.length (bytesVals f.seen) ∧ f.sv.ownBlock ≠ some g ∧ g ≠ f.g ∧
    Touch (fun k => k = f.g ∨ buf f k) w (w1.setCell ⟨f.g, 2, none⟩ (.slice (some ⟨g, 0, none⟩) n cap)) := by
  have hB1 := hF.blk.touch hT (fun e => row_ne hF.last hF.blk (by decide) e)
  have hgn : g ≠ f.g := fun e => row_ne hrow hB1 (by decide) (by rw [e]; rfl)
  have T2 : Touch (fun k => k = f.g) w1 (w1.setCell ⟨f.g, 2, none⟩ (.slice (some ⟨g, 0, none⟩) n cap)) := touch1_set (Touch.refl _ w1) _
  have hsv1 := row_touch hF.seen hT (fun k hk e => hF.own k e hk)
  refine ⟨hB1.set 2 _, row_touch hrow T2 (fun k hk e => ?_), row_touch hsv1 T2 (fun k hk e => ?_), ?_, hgn, ?_⟩
  · subst e; exact hgn (by simpa [Value.ownBlock] using hk)
  · subst e; exact row_ne hF.seen hF.blk (by decide) hk
  · intro e
    rcases hg with h | h
    · exact hF.own g h e
    · have := (hF.seen.lt g e).2; omega
  · exact (hT.mono (fun k _ hk => Or.inr (Or.inl hk))).trans (T2.mono (fun k _ hk => Or.inl hk))
theorem file_laid_last {w w2 w3 : World} {f : DFile} {g n cap : Nat} {t : List UInt8} {a : Nat} {xs : List Value} (hb : Blk w2 f.g [.int .i64 f.id, .string f.name, .slice (some ⟨g, 0, none⟩) n cap, f.sv] 136) (hs : w2.ownsRow 0 5 1 f.sv f.seen.length (bytesVals f.seen))
    (hsg : f.sv.ownBlock ≠ some g) (hgn : g ≠ f.g) (hT : Touch (fun k => k = f.g ∨ buf f k) w w2) (hT3 : Touch (fun k => k = g) w2 w3) (hg : f.lv.ownBlock = some g ∨ g = w.heap.size) (hn : n = (layB f.last a t).length) (hx : xs = bytesVals (layB f.last a t))
    (hrow : w3.ownsRow 0 5 1 (.slice (some ⟨g, 0, none⟩) n cap) n xs) :
    FileAt w3 { f with lv := .slice (some ⟨g, 0, none⟩) n cap, last := layB f.last a t } ∧ Touch (fun k => k = f.g ∨ buf f k) w w3 ∧ (∀ k, buf { f with lv := .slice (some ⟨g, 0, none⟩) n cap, last := layB f.last a t } k → buf f k ∨ w.heap.size ≤ k) := by
  subst hn; subst hx
  refine ⟨⟨hb.touch hT3 (fun e => hgn e.symm), hrow, row_touch hs hT3 (fun k hk e => hsg (by rw [hk, e])), fun k hk e => ?_⟩, ?_, ?_⟩
  · have : g = k := by simpa [Value.ownBlock] using hk
    subst this; exact hsg e
  · refine ⟨hT3.os.trans hT.os, hT3.tape.trans hT.tape, hT3.output.trans hT.output, Nat.le_trans hT.size hT3.size, fun k hk hn => ?_⟩
    rw [hT3.block k (Nat.lt_of_lt_of_le hk hT.size) (fun e => by
      subst e
      rcases hg with h | h
      · exact hn (Or.inr (Or.inl h))
      · omega)]
    exact hT.block k hk hn
  · intro k hk
    rcases hk with hk | hk
    · have : g = k := by simpa [Value.ownBlock] using hk
      subst this
      rcases hg with h | h
      · exact Or.inl (Or.inl h)
      · right; omega
    · exact Or.inl (Or.inr hk)

/-- a file whose seen bytes grew -/
theorem file_grew_seen {w w1 : World} {f : DFile} {g n cap : Nat} {xs : List Value} (hF : FileAt w f) (hT : Touch (fun k => f.sv.ownBlock = some k) w w1) (hrow : w1.ownsRow 0 5 1 (.slice (some ⟨g, 0, none⟩) n cap) n xs) (hg : f.sv.ownBlock = some g ∨ g = w.heap.size) :
    Blk (w1.setCell ⟨f.g, 3, none⟩ (.slice (some ⟨g, 0, none⟩) n cap)) f.g [.int .i64 f.id, .string f.name, f.lv, .slice (some ⟨g, 0, none⟩) n cap] 136 ∧
    (w1.setCell ⟨f.g, 3, none⟩ (.slice (some ⟨g, 0, none⟩) n cap)).ownsRow 0 5 1 (.slice (some ⟨g, 0, none⟩) n cap) n xs ∧
    (w1.setCell ⟨f.g, 3, none⟩ (.slice (some ⟨g, 0, none⟩) n cap)).ownsRow 0 5 1 f.lv f.last.length (bytesVals f.last) ∧ f.lv.ownBlock ≠ some g ∧ g ≠ f.g ∧
    Touch (fun k => k = f.g ∨ buf f k) w (w1.setCell ⟨f.g, 3, none⟩ (.slice (some ⟨g, 0, none⟩) n cap)) := by
  have hB1 := hF.blk.touch hT (fun e => row_ne hF.seen hF.blk (by decide) e)
  have hgn : g ≠ f.g := fun e => row_ne hrow hB1 (by decide) (by rw [e]; rfl)
  have T2 : Touch (fun k => k = f.g) w1 (w1.setCell ⟨f.g, 3, none⟩ (.slice (some ⟨g, 0, none⟩) n cap)) := touch1_set (Touch.refl _ w1) _
  have hsv1 := row_touch hF.last hT (fun k hk e => hF.own k hk e)
  refine ⟨hB1.set 3 _, row_touch hrow T2 (fun k hk e => ?_), row_touch hsv1 T2 (fun k hk e => ?_), ?_, hgn, ?_⟩
  · subst e; exact hgn (by simpa [Value.ownBlock] using hk)
  · subst e; exact row_ne hF.last hF.blk (by decide) hk
  · intro e
    rcases hg with h | h
    · exact hF.own g e h
    · have := (hF.last.lt g e).2; omega
  · exact (hT.mono (fun k _ hk => Or.inr (Or.inr hk))).trans (T2.mono (fun k _ hk => Or.inl hk))
theorem file_laid_seen {w w2 w3 : World} {f : DFile} {g n cap : Nat} {t : List UInt8} {a : Nat} {xs : List Value} (hb : Blk w2 f.g [.int .i64 f.id, .string f.name, f.lv, .slice (some ⟨g, 0, none⟩) n cap] 136) (hs : w2.ownsRow 0 5 1 f.lv f.last.length (bytesVals f.last))
    (hsg : f.lv.ownBlock ≠ some g) (hgn : g ≠ f.g) (hT : Touch (fun k => k = f.g ∨ buf f k) w w2) (hT3 : Touch (fun k => k = g) w2 w3) (hg : f.sv.ownBlock = some g ∨ g = w.heap.size) (hn : n = (layB f.seen a t).length) (hx : xs = bytesVals (layB f.seen a t))
    (hrow : w3.ownsRow 0 5 1 (.slice (some ⟨g, 0, none⟩) n cap) n xs) :
    FileAt w3 { f with sv := .slice (some ⟨g, 0, none⟩) n cap, seen := layB f.seen a t } ∧ Touch (fun k => k = f.g ∨ buf f k) w w3 ∧ (∀ k, buf { f with sv := .slice (some ⟨g, 0, none⟩) n cap, seen := layB f.seen a t } k → buf f k ∨ w.heap.size ≤ k) := by
  subst hn; subst hx
  refine ⟨⟨hb.touch hT3 (fun e => hgn e.symm), row_touch hs hT3 (fun k hk e => hsg (by rw [hk, e])), hrow, fun k hk e => ?_⟩, ?_, ?_⟩
  · have : g = k := by simpa [Value.ownBlock] using e
    subst this; exact hsg hk
  · refine ⟨hT3.os.trans hT.os, hT3.tape.trans hT.tape, hT3.output.trans hT.output, Nat.le_trans hT.size hT3.size, fun k hk hn => ?_⟩
    rw [hT3.block k (Nat.lt_of_lt_of_le hk hT.size) (fun e => by
      subst e
      rcases hg with h | h
      · exact hn (Or.inr (Or.inr h))
      · omega)]
    exact hT.block k hk hn
  · intro k hk
    rcases hk with hk | hk
    · exact Or.inl (Or.inl hk)
    · have : g = k := by simpa [Value.ownBlock] using hk
      subst this
      rcases hg with h | h
      · exact Or.inl (Or.inr h)
      · right; omega
/-- one file of a device turned: the device's step -/
theorem Dev.setFile {w w' : World} {b : Nat} {S : DSt} (h : DiskAt w b S) (i : Nat) (hi : i < S.files.length) (f' : DFile) (hg : f'.g = S.files[i].g) (hF : FileAt w' f')
    (ht : Touch (fun k => k = S.files[i].g ∨ buf S.files[i] k) w w') (hn : ∀ k, buf f' k → buf S.files[i] k ∨ w.heap.size ≤ k) : Dev b S w { S with files := S.files.set i f' } w' := by
  refine ⟨h.setFile i hi f' hg hF ht hn, ht.mono (fun k _ hk => Or.inr (Or.inr (Or.inr ⟨_, List.getElem_mem hi, by
    rcases hk with h | h
    · exact Or.inl h.symm
    · exact Or.inr h⟩))), ?_⟩
  intro k hk
  rcases hk with hk | hk | hk | ⟨f, hf, hk⟩
  · exact Or.inl (Or.inl hk)
  · exact Or.inl (Or.inr (Or.inl hk))
  · exact Or.inl (Or.inr (Or.inr (Or.inl hk)))
  · rcases List.mem_or_eq_of_mem_set hf with h1 | h1
    · exact Or.inl (Or.inr (Or.inr (Or.inr ⟨f, h1, hk⟩)))
    · subst h1
      rcases hk with hk | hk
      · exact Or.inl (Or.inr (Or.inr (Or.inr ⟨_, List.getElem_mem hi, Or.inl (by rw [← hg]; exact hk)⟩)))
      · rcases hn k hk with h2 | h2
        · exact Or.inl (Or.inr (Or.inr (Or.inr ⟨_, List.getElem_mem hi, Or.inr h2⟩)))
        · exact Or.inr h2
end Go.Proofs.YtaeklleogniimaaGreatDoor
