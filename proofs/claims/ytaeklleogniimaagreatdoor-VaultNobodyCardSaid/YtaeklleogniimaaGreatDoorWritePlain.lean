/- What a write makes of a device: plain. No program in sight. -/
import Derived.Test.YtaeklleogniimaaGreatDoorCrash
namespace Go.Proofs.YtaeklleogniimaaGreatDoor
open Go.RowKit
set_option linter.unusedVariables false

def findI (l : List PF) (s : ByteArray) : Option Nat := l.findIdx? fun f => decide (f.name = s)
theorem findI_at {l : List DFile} (ho : Ordered l) (s : ByteArray) (hx : lower l s < l.length) (hn : l[lower l s].name = s) : findI (l.map DFile.pl) s = some (lower l s) := by
  unfold findI
  rw [List.findIdx?_eq_some_iff_getElem]
  refine ⟨by simpa using hx, by simpa [DFile.pl] using hn, fun j hj => ?_⟩
  have := ordered_lt ho hj hx
  rw [hn] at this
  have hne : (l[j]'(by omega)).name ≠ s := by
    intro e
    rw [e, cmp_self] at this
    omega
  simpa [DFile.pl] using hne
theorem findI_none {l : List DFile} {s : ByteArray} (h : findF l s = none) : findI (l.map DFile.pl) s = none := by
  unfold findI
  unfold findF at h
  rw [List.findIdx?_eq_none_iff]
  intro f hf
  obtain ⟨g, hg, rfl⟩ := List.mem_map.1 hf
  have := List.find?_eq_none.1 h g hg
  have h2 : ¬ g.name = s := by simpa using this
  exact decide_eq_false h2
/-- a name, found: its place and the file there -/
theorem find_both {l : List DFile} (ho : Ordered l) (s : ByteArray) : (findF l s = none ∧ findI (l.map DFile.pl) s = none) ∨ (∃ i, ∃ hi : i < l.length, findF l s = some l[i] ∧ findI (l.map DFile.pl) s = some i ∧ l[i].name = s) := by
  rcases isAt_find ho s with ⟨_, h⟩ | ⟨hx, _, hn, h⟩
  · exact Or.inl ⟨h, findI_none h⟩
  · exact Or.inr ⟨_, hx, h, findI_at ho s hx hn, hn⟩

def idAt (P : PS) (i : Nat) : Int := (P.files[i]?.map PF.id).getD 0
/-- one piece of a write taken -/
def wrStep (P : PS) (i a : Nat) (t : ByteArray) : PS :=
  { P with fuse := if 0 < P.fuse then P.fuse - 1 else P.fuse, count := P.count + 1, wait := P.wait ++ [⟨idAt P i, ((a / 64 : Nat) : Int), ((a % 64 : Nat) : Int), t⟩], files := P.files.modify i fun f => { f with seen := layB f.seen a t.data.toList } }
def room (a : Nat) (t : ByteArray) : Nat := min t.size (64 - a % 64)
def wrGo : Nat → PS → Nat → Nat → ByteArray → Int × PS
  | 0, P, _, _, _ => (0, P)
  | n + 1, P, i, a, t => if t.size = 0 then (0, P) else if P.fuse = 0 then (14, { P with off := true }) else wrGo n (wrStep P i a (t.extract 0 (room a t))) i (a + room a t) (t.extract (room a t) t.size)
def secsP (f : PF) : Nat := secs (max f.seen.length f.last.length)
def usedP (l : List PF) : Nat := (l.map secsP).sum
theorem usedP_pl (l : List DFile) : usedP (l.map DFile.pl) = usedOf l := by
  unfold usedP usedOf
  rw [List.map_map]
  rfl
def secsI (P : PS) (i : Nat) : Nat := (P.files[i]?.map secsP).getD 0
def PS.write (P : PS) (s : ByteArray) (a : Int) (t : ByteArray) : Int × PS :=
  if P.off then (14, P) else match findI P.files s with
  | none => (8, P)
  | some i => if a < 0 ∨ 2097152 - (t.size : Int) < a then (2, P) else
    if 0 < t.size ∧ P.most - (usedP P.files : Nat) < ((secs (a.toNat + t.size) : Nat) : Int) - ((secsI P i : Nat) : Int) then (7, P) else wrGo t.size P i a.toNat t

theorem wrGo_done {n : Nat} {P : PS} {i a : Nat} {t : ByteArray} (h : t.size = 0) : wrGo n P i a t = (0, P) := by
  cases n with
  | zero => rfl
  | succ n => unfold wrGo; rw [if_pos h]
theorem wrGo_off {n : Nat} {P : PS} {i a : Nat} {t : ByteArray} (hn : t.size ≤ n) (h : 0 < t.size) (hf : P.fuse = 0) : wrGo n P i a t = (14, { P with off := true }) := by
  cases n with
  | zero => omega
  | succ n => unfold wrGo; rw [if_neg (by omega), if_pos hf]
theorem wrGo_step {n : Nat} {P : PS} {i a : Nat} {t : ByteArray} (hn : t.size ≤ n) (h : 0 < t.size) (hf : P.fuse ≠ 0) : wrGo n P i a t = wrGo (n - 1) (wrStep P i a (t.extract 0 (room a t))) i (a + room a t) (t.extract (room a t) t.size) := by
  cases n with
  | zero => omega
  | succ n => conv => lhs; unfold wrGo
              rw [if_neg (by omega), if_neg hf]
              rfl
theorem room_pos {a : Nat} {t : ByteArray} (h : 0 < t.size) : 0 < room a t ∧ room a t ≤ t.size ∧ room a t ≤ 64 := by unfold room; omega
theorem rest_size {a : Nat} {t : ByteArray} : (t.extract (room a t) t.size).size = t.size - room a t := by
  rw [ByteArray.size_extract]; omega
theorem modify_pl {l : List DFile} {i : Nat} (hi : i < l.length) (F : PF → PF) (f' : DFile) (h : f'.pl = F l[i].pl) : (l.set i f').map DFile.pl = (l.map DFile.pl).modify i F := by
  rw [List.map_set, h]
  apply List.ext_getElem?
  intro k
  rw [List.getElem?_set, List.getElem?_modify]
  by_cases e : i = k
  · subst e; simp [hi]
  · simp [e]
    
/-- the device takes one more piece that waits -/
theorem Dev.addWait {w w3 : World} {b gg cap : Nat} {S : DSt} {p : DPiece} (h : DiskAt w b S)
    (hown : w3.ownsRow 0 198 4 (.slice (some ⟨gg, 0, none⟩) (S.wait.length + 1) cap) (S.wait.length + 1) (waitVals S.wait ++ pieceVals p)) (hT : Touch (fun k => S.wv.ownBlock = some k) w w3) (hg : S.wv.ownBlock = some gg ∨ w.heap.size ≤ gg) :
    Dev b S w { S with wv := .slice (some ⟨gg, 0, none⟩) (S.wait.length + 1) cap, wait := S.wait ++ [p] } (w3.setCell ⟨b, 1, none⟩ (.slice (some ⟨gg, 0, none⟩) (S.wait.length + 1) cap)) := by
  obtain ⟨h1, h2, h3⟩ := h.b_ne
  have hbl := h.blk.lt
  have T : Touch (fun k => k = b) w3 (w3.setCell ⟨b, 1, none⟩ (.slice (some ⟨gg, 0, none⟩) (S.wait.length + 1) cap)) := touch1_set (Touch.refl _ w3) _
  have hB3 := h.blk.touch hT h2
  have hgb : gg ≠ b := by
    rcases hg with e | e
    · intro e2; exact h2 (by rw [e, e2])
    · omega
  refine ⟨⟨hB3.set 1 _, row_touch (row_touch h.frow hT (fun g hg e => row_ne_row h.frow h.wrow (by decide) hg e)) T (fun g hg e => h1 (by rw [hg, e])), ?_, fun f hf => ?_, h.apart⟩, (hT.mono (fun k _ hk => Or.inr (Or.inr (Or.inl hk)))).trans (T.mono (fun k _ hk => Or.inl hk)), ?_⟩
  · have e1 : (S.wait ++ [p]).length = S.wait.length + 1 := by simp
    have e2 : waitVals (S.wait ++ [p]) = waitVals S.wait ++ pieceVals p := by unfold waitVals; simp
    show World.ownsRow _ 0 _ 4 _ (S.wait ++ [p]).length (waitVals (S.wait ++ [p]))
    rw [e1, e2]
    exact row_touch hown T (fun g hg e => hgb (by
      have : gg = g := by simpa [Value.ownBlock] using hg
      omega))
  · have hfa := h.fat f hf
    refine (hfa.touch hT (fun e => row_ne h.wrow hfa.blk (by decide) e) (fun k hk e => ?_)).touch T (h3 f hf).1 (fun k hk e => (h3 f hf).2 (e ▸ hk))
    rcases hk with hk | hk
    · exact row_ne_row h.wrow hfa.last (by decide) e hk
    · exact row_ne_row h.wrow hfa.seen (by decide) e hk
  · intro k hk
    rcases hk with hk | hk | hk | hk
    · exact Or.inl (Or.inl hk)
    · exact Or.inl (Or.inr (Or.inl hk))
    · have : gg = k := by simpa [Value.ownBlock] using hk
      subst this
      rcases hg with e | e
      · exact Or.inl (Or.inr (Or.inr (Or.inl e)))
      · exact Or.inr e
    · exact Or.inl (Or.inr (Or.inr (Or.inr hk)))
theorem info_write : (Tryz.prog.info? 198).map (fun i => (i.zero, i.size, i.bytes)) = some (some (.agg #[.int .i64 0, .int .i64 0, .int .i64 0, .string ByteArray.empty]), 4, 40) := by kernel_rfl
end Go.Proofs.YtaeklleogniimaaGreatDoor
