/- A device in memory, and the walks of New, ready, Up, Waiting, Writes, sectors, place and find. Conditions: names stand in order. -/
import Derived.Test.YtaeklleogniimaaGreatDoorOrd
import Derived.Test.YtaeklleogniimaaGreatDoorHeap2
import Derived.Test.YtaeklleogniimaaGreatDoorShelf
import Derived.Test.YtaeklleogniimaaGreatDoorRows
import Derived.Lib.MinMax
namespace Go.Proofs.YtaeklleogniimaaGreatDoor
open Go.RowKit

structure DFile where
  g : Nat
  lv : Value
  sv : Value
  id : Int
  name : ByteArray
  last : List UInt8
  seen : List UInt8
structure DPiece where
  id : Int
  at_ : Int
  from_ : Int
  text : ByteArray
structure DSt where
  fv : Value
  wv : Value
  files : List DFile
  wait : List DPiece
  most : Int
  fuse : Int
  off : Bool
  count : Int
  made : Int
def bytesVals (l : List UInt8) : List Value := l.map fun b => Value.int .u8 (b.toNat : Int)
def pieceVals (p : DPiece) : List Value := [.int .i64 p.id, .int .i64 p.at_, .int .i64 p.from_, .string p.text]
def waitVals (l : List DPiece) : List Value := l.flatMap pieceVals
def fileVals (f : DFile) : List Value := [.int .i64 f.id, .string f.name, f.lv, f.sv]
structure FileAt (w : World) (f : DFile) : Prop where
  blk : Blk w f.g (fileVals f) 136
  last : w.ownsRow 0 5 1 f.lv f.last.length (bytesVals f.last)
  seen : w.ownsRow 0 5 1 f.sv f.seen.length (bytesVals f.seen)
  own : ∀ k, f.lv.ownBlock = some k → f.sv.ownBlock ≠ some k
/-- a file's buffers -/
def buf (f : DFile) (k : Nat) : Prop := f.lv.ownBlock = some k ∨ f.sv.ownBlock = some k
/-- two files that share nothing -/
def Apart (f h : DFile) : Prop := f.g ≠ h.g ∧ ∀ k, buf f k → ¬ buf h k
theorem Apart.symm {f h : DFile} (a : Apart f h) : Apart h f := ⟨fun e => a.1 e.symm, fun k h1 h2 => a.2 k h2 h1⟩
def fptrs (l : List DFile) : List Value := l.map fun f => .pointer (some ⟨f.g, 0, none⟩)
def DSt.vals (S : DSt) : List Value := [S.fv, S.wv, .int .i64 S.most, .int .i64 S.fuse, .bool S.off, .int .i64 S.count, .int .i64 S.made]
structure DiskAt (w : World) (b : Nat) (S : DSt) : Prop where
  blk : Blk w b S.vals 79
  frow : w.ownsRow 0 133 1 S.fv S.files.length (fptrs S.files)
  wrow : w.ownsRow 0 198 4 S.wv S.wait.length (waitVals S.wait)
  fat : ∀ f ∈ S.files, FileAt w f
  apart : S.files.Pairwise Apart
/-- names stand in order -/
def Ordered (l : List DFile) : Prop := l.Pairwise fun f h => Lib.compareBytes f.name.data.toList h.name.data.toList < 0
/-- the blocks of a device -/
def foot (b : Nat) (S : DSt) (k : Nat) : Prop := k = b ∨ S.fv.ownBlock = some k ∨ S.wv.ownBlock = some k ∨ ∃ f ∈ S.files, f.g = k ∨ buf f k

theorem FileAt.touch {w w' : World} {f : DFile} {P : Nat → Prop} (h : FileAt w f) (ht : Touch P w w') (h1 : ¬ P f.g) (h2 : ∀ k, buf f k → ¬ P k) : FileAt w' f :=
  ⟨h.blk.touch ht h1, row_touch h.last ht (fun g hg => h2 g (Or.inl hg)), row_touch h.seen ht (fun g hg => h2 g (Or.inr hg)), h.own⟩
theorem DiskAt.touch {w w' : World} {b : Nat} {S : DSt} {P : Nat → Prop} (h : DiskAt w b S) (ht : Touch P w w') (hP : ∀ k, foot b S k → ¬ P k) : DiskAt w' b S :=
  ⟨h.blk.touch ht (hP _ (Or.inl rfl)), row_touch h.frow ht (fun g hg => hP g (Or.inr (Or.inl hg))), row_touch h.wrow ht (fun g hg => hP g (Or.inr (Or.inr (Or.inl hg)))),
    fun f hf => (h.fat f hf).touch ht (hP _ (Or.inr (Or.inr (Or.inr ⟨f, hf, Or.inl rfl⟩)))) (fun k hk => hP k (Or.inr (Or.inr (Or.inr ⟨f, hf, Or.inr hk⟩)))), h.apart⟩
theorem foot_lt {w : World} {b : Nat} {S : DSt} (h : DiskAt w b S) {k : Nat} (hk : foot b S k) : k < w.heap.size := by
  rcases hk with rfl | hk | hk | ⟨f, hf, rfl | hk | hk⟩
  · exact h.blk.lt
  · exact (h.frow.lt k hk).2
  · exact (h.wrow.lt k hk).2
  · exact (h.fat f hf).blk.lt
  · exact ((h.fat f hf).last.lt k hk).2
  · exact ((h.fat f hf).seen.lt k hk).2
/-- what is no file's, no buffer's block -/
theorem DiskAt.b_ne {w : World} {b : Nat} {S : DSt} (h : DiskAt w b S) : (S.fv.ownBlock ≠ some b) ∧ (S.wv.ownBlock ≠ some b) ∧ ∀ f ∈ S.files, f.g ≠ b ∧ ¬ buf f b :=
  ⟨row_ne h.frow h.blk (by decide), row_ne h.wrow h.blk (by decide), fun f hf => ⟨(h.fat f hf).blk.ne h.blk (by decide), fun hb => by
    rcases hb with hb | hb
    · exact row_ne (h.fat f hf).last h.blk (by decide) hb
    · exact row_ne (h.fat f hf).seen h.blk (by decide) hb⟩⟩
theorem apart_at {l : List DFile} (h : l.Pairwise Apart) {i j : Nat} (hi : i < l.length) (hj : j < l.length) (hij : i ≠ j) : Apart l[i] l[j] := by
  rcases Nat.lt_or_gt_of_ne hij with h1 | h1
  · exact List.pairwise_iff_getElem.1 h i j hi hj h1
  · exact (List.pairwise_iff_getElem.1 h j i hj hi h1).symm
/-- a file and no other of a device's blocks has been turned -/
theorem DiskAt.setFile {w w' : World} {b : Nat} {S : DSt} (h : DiskAt w b S) (i : Nat) (hi : i < S.files.length) (f' : DFile) (hg : f'.g = S.files[i].g) (hF : FileAt w' f')
    (ht : Touch (fun k => k = S.files[i].g ∨ buf S.files[i] k) w w') (hn : ∀ k, buf f' k → buf S.files[i] k ∨ w.heap.size ≤ k) : DiskAt w' b { S with files := S.files.set i f' } := by
  obtain ⟨h1, h2, h3⟩ := h.b_ne
  have hm := List.getElem_mem hi
  have hfi := h.fat _ hm
  refine ⟨h.blk.touch ht ?_, ?_, ?_, ?_, ?_⟩
  · rintro (e | e)
    · exact (h3 _ hm).1 e.symm
    · exact (h3 _ hm).2 e
  · have e1 : fptrs (S.files.set i f') = fptrs S.files := by
      apply List.ext_getElem?
      intro k
      unfold fptrs
      rw [List.getElem?_map, List.getElem?_map, List.getElem?_set]
      by_cases e : i = k
      · subst e; simp [hi, hg]
      · simp [e]
    show w'.ownsRow 0 _ 1 S.fv (S.files.set i f').length (fptrs (S.files.set i f'))
    rw [e1, List.length_set]
    refine row_touch h.frow ht ?_
    rintro g hg2 (rfl | e)
    · exact row_ne h.frow hfi.blk (by decide) hg2
    · rcases e with e | e
      · exact row_ne_row h.frow hfi.last (by decide) hg2 e
      · exact row_ne_row h.frow hfi.seen (by decide) hg2 e
  · refine row_touch h.wrow ht ?_
    rintro g hg2 (rfl | e)
    · exact row_ne h.wrow hfi.blk (by decide) hg2
    · rcases e with e | e
      · exact row_ne_row h.wrow hfi.last (by decide) hg2 e
      · exact row_ne_row h.wrow hfi.seen (by decide) hg2 e
  · intro f hf
    obtain ⟨j, hj, rfl⟩ := List.mem_iff_getElem.1 hf
    have hj' : j < S.files.length := by simpa using hj
    show FileAt w' ((S.files.set i f')[j])
    rw [List.getElem_set]
    by_cases e : i = j
    · rw [if_pos e]; exact hF
    · rw [if_neg e]
      have ha := apart_at h.apart hi hj' e
      have hfj := h.fat _ (List.getElem_mem hj')
      refine hfj.touch ht ?_ ?_
      · rintro (e2 | e2)
        · exact ha.1 e2.symm
        · rcases e2 with e2 | e2
          · exact row_ne hfi.last hfj.blk (by decide) e2
          · exact row_ne hfi.seen hfj.blk (by decide) e2
      · rintro k hk (rfl | e2)
        · rcases hk with e2 | e2
          · exact row_ne hfj.last hfi.blk (by decide) e2
          · exact row_ne hfj.seen hfi.blk (by decide) e2
        · exact ha.2 k e2 hk
  · show (S.files.set i f').Pairwise Apart
    rw [List.pairwise_iff_getElem]
    have key : ∀ j (hj : j < S.files.length), i ≠ j → Apart f' S.files[j] := by
      intro j hj e
      have ha := apart_at h.apart hi hj e
      refine ⟨by rw [hg]; exact ha.1, fun k hk hk2 => ?_⟩
      rcases hn k hk with h4 | h4
      · exact ha.2 k h4 hk2
      · have := foot_lt h (k := k) (Or.inr (Or.inr (Or.inr ⟨_, List.getElem_mem hj, Or.inr hk2⟩)))
        omega
    intro a c ha hc hac
    have ha' : a < S.files.length := by simpa using ha
    have hc' : c < S.files.length := by simpa using hc
    rw [List.getElem_set, List.getElem_set]
    by_cases e1 : i = a
    · rw [if_pos e1, if_neg (by omega)]
      exact key c hc' (by omega)
    · rw [if_neg e1]
      by_cases e2 : i = c
      · rw [if_pos e2]; exact (key a ha' e1).symm
      · rw [if_neg e2]; exact apart_at h.apart ha' hc' (by omega)
theorem DiskAt.below {w w' : World} {b : Nat} {S : DSt} (h : DiskAt w b S) (hb : Below w.heap.size w w') : DiskAt w' b S :=
  h.touch (Touch.of_below (S := fun _ => False) hb) (fun _ _ h => h)
theorem DiskAt.drewN {w : World} {b : Nat} {S : DSt} (h : DiskAt w b S) (n : Nat) : DiskAt (w.drewN n) b S := h.below (below_drewN (Below.refl _ _) n)
theorem DiskAt.alloc {w : World} {b : Nat} {S : DSt} (h : DiskAt w b S) (o : Obj) : DiskAt (w.alloc o) b S := h.below ((Below.refl _ _).alloc (Nat.le_refl _) _)

theorem fptrs_at {w : World} {b : Nat} {S : DSt} (h : DiskAt w b S) (k : Nat) (hk : k < S.files.length) :
    ∃ g cap, S.fv = .slice (some ⟨g, 0, none⟩) S.files.length cap ∧ g < w.heap.size ∧ w.cell? ⟨g, k, none⟩ = some (.pointer (some ⟨S.files[k].g, 0, none⟩)) := by
  obtain ⟨g, cap, hv, _, hlt, _, _, hc⟩ := row_some h.frow (by omega)
  refine ⟨g, cap, hv, hlt, ?_⟩
  rw [hc k (by omega), fptrs, List.getElem?_map, List.getElem?_eq_getElem hk]
  rfl

set_option maxRecDepth 100000 in
theorem newDisk_any (n : Int) (w : World) (h : 0 ≤ n ∧ n ≤ 32768) :
    Calls Tryz.prog 9 #[.int .i64 n] w fun e w' => ∃ b, e = .returned (.tuple #[.pointer (some ⟨b, 0, none⟩), .int .i64 0]) ∧ b = w.heap.size ∧ DiskAt w' b ⟨.slice none 0 0, .slice none 0 0, [], [], n, -1, false, 0, 0⟩ ∧ Below w.heap.size w w' := by
  obtain ⟨h1, h2⟩ := h
  go_enter Tryz.func9, Tryz.ntmps9
  go_wp2
  go_ret2
  exact ⟨_, rfl, rfl, ⟨Blk.new w [.slice none 0 0, .slice none 0 0, .int .i64 n, .int .i64 (-1), .bool false, .int .i64 0, .int .i64 0] _, World.ownsRow_nil _ _ _ _, World.ownsRow_nil _ _ _ _, (fun f hf => by cases hf), List.Pairwise.nil⟩, (Below.refl _ _).alloc (Nat.le_refl _) _⟩
theorem newDisk_no (n : Int) (w : World) (h : n < 0 ∨ 32768 < n) :
    Calls Tryz.prog 9 #[.int .i64 n] w fun e w' => e = .returned (.tuple #[.pointer none, .int .i64 1]) ∧ w = w' := by
  have hd : (decide (n < 0) || decide (32768 < n)) = true := by simp only [Bool.or_eq_true, decide_eq_true_eq]; exact h
  clear h
  go_enter Tryz.func9, Tryz.ntmps9
  go_wp2
  all_goals (go_ret2; exact ⟨rfl, rfl⟩)

theorem ready_nil (w : World) : Calls Tryz.prog 71 #[.pointer none] w fun e w' => e = .returned (.int .i64 1) ∧ w = w' := by
  go_enter Tryz.func71, Tryz.ntmps71
  go_wp2
  go_ret
  exact ⟨rfl, rfl⟩
def readyOf (off : Bool) : Int := if off then 14 else 0
theorem ready_any (b : Nat) (S : DSt) (w : World) (h : DiskAt w b S) : Calls Tryz.prog 71 #[.pointer (some ⟨b, 0, none⟩)] w fun e w' => e = .returned (.int .i64 (readyOf S.off)) ∧ w = w' := by
  have c4 : w.cell? ⟨b, 4, none⟩ = some (.bool S.off) := h.blk.cell 4
  clear h
  cases ho : S.off
  all_goals
    rw [ho] at c4
    go_enter Tryz.func71, Tryz.ntmps71
    go_wp2
    go_ret
    exact ⟨rfl, rfl⟩
theorem up_any (b : Nat) (S : DSt) (w : World) (h : DiskAt w b S) : Calls Tryz.prog 97 #[.pointer (some ⟨b, 0, none⟩)] w fun e w' => e = .returned (.bool (!S.off)) ∧ w = w' := by
  have c4 : w.cell? ⟨b, 4, none⟩ = some (.bool S.off) := h.blk.cell 4
  clear h
  go_enter Tryz.func97, Tryz.ntmps97
  go_wp2
  go_ret
  exact ⟨rfl, rfl⟩
theorem up_nil (w : World) : Calls Tryz.prog 97 #[.pointer none] w fun e w' => e = .returned (.bool false) ∧ w = w' := by
  go_enter Tryz.func97, Tryz.ntmps97
  go_wp2
  go_ret
  exact ⟨rfl, rfl⟩
theorem sectors_any (n : Nat) (w : World) (h : n ≤ 4611686018427387904) : Calls Tryz.prog 220 #[.int .i64 (n : Int)] w fun e w' => e = .returned (.int .i64 (((n + 63) / 64 : Nat) : Int)) ∧ w = w' := by
  go_enter Tryz.func220, Tryz.ntmps220
  go_wp2
  go_ret
  exact ⟨ret_int (by omega), rfl⟩

theorem placeFn_any (f : DFile) (s : ByteArray) (w : World) (h : FileAt w f) :
    Calls Tryz.prog 203 #[.pointer (some ⟨f.g, 0, none⟩), .string s] w fun e w' => e = .returned (.int .i64 (Lib.compareBytes f.name.data.toList s.data.toList)) ∧ w = w' := by
  have c1 : w.cell? ⟨f.g, 1, none⟩ = some (.string f.name) := h.blk.cell 1
  clear h
  go_enter Tryz.func203, Tryz.ntmps203
  go_wp2_with (go_at_call 204; refine (Tryz.strings_Compare _ _ _).mono ?_; rintro e w' ⟨rfl, rfl⟩)
  go_ret
  exact ⟨rfl, rfl⟩

/-- where a name stands or would stand: how many stand ahead of it -/
def lower (l : List DFile) (s : ByteArray) : Nat := l.countP fun f => decide (Lib.compareBytes f.name.data.toList s.data.toList < 0)
def isAt (l : List DFile) (s : ByteArray) : Bool := match l[lower l s]? with
  | some f => decide (f.name = s)
  | none => false

theorem lower_eq {l : List DFile} {s : ByteArray} {p : Nat} (hp : p ≤ l.length) (h1 : ∀ k (hk : k < l.length), k < p → Lib.compareBytes l[k].name.data.toList s.data.toList < 0) (h2 : ∀ k (hk : k < l.length), p ≤ k → ¬ Lib.compareBytes l[k].name.data.toList s.data.toList < 0) : lower l s = p := by
  unfold lower
  rw [← List.take_append_drop p l, List.countP_append]
  have e1 : (l.take p).countP (fun f => decide (Lib.compareBytes f.name.data.toList s.data.toList < 0)) = p := by
    rw [List.countP_eq_length.2, List.length_take]
    · omega
    · intro f hf
      obtain ⟨i, hi, rfl⟩ := List.mem_iff_getElem.1 hf
      rw [List.getElem_take]
      rw [List.length_take] at hi
      simpa using h1 i (by omega) (by omega)
  have e2 : (l.drop p).countP (fun f => decide (Lib.compareBytes f.name.data.toList s.data.toList < 0)) = 0 := by
    rw [List.countP_eq_zero]
    intro f hf
    obtain ⟨i, hi, rfl⟩ := List.mem_iff_getElem.1 hf
    rw [List.getElem_drop]
    rw [List.length_drop] at hi
    simpa using h2 (p + i) (by omega) (by omega)
  omega
theorem ordered_lt {l : List DFile} (h : Ordered l) {i j : Nat} (hij : i < j) (hj : j < l.length) : Lib.compareBytes (l[i]'(by omega)).name.data.toList l[j].name.data.toList < 0 :=
  List.pairwise_iff_getElem.1 h i j (by omega) hj hij
theorem name_eq {a b : ByteArray} : a.data.toList = b.data.toList ↔ a = b := by
  constructor
  · intro h
    cases a; cases b
    simp at h
    simp [h]
  · intro h; rw [h]

set_option maxRecDepth 100000 in
set_option maxHeartbeats 4000000 in
theorem search_any (b : Nat) (S : DSt) (s : ByteArray) (w : World) (h : DiskAt w b S) (ho : Ordered S.files) (hl : S.files.length ≤ 1000000000) :
    Calls Tryz.prog 202 #[S.fv, .string s, (.func (.func 203) #[] #[])] w fun e w' => e = .returned (.tuple #[.int .i64 (lower S.files s : Nat), .bool (isAt S.files s)]) ∧ w = w' := by
  obtain ⟨ad, cap, hv⟩ := row_shape h.frow
  have H := Lib.hid h
  have Ho := Lib.hid ho
  rw [hv]
  have Hv := Lib.hid hv
  clear h ho hv
  go_enter Tryz.func202, Tryz.ntmps202
  go_wp2
  go_loop [9, 10] (fun i j => ∃ x y : Nat, i = .int .i64 x ∧ j = .int .i64 y ∧ x ≤ y ∧ y ≤ S.files.length ∧ Hid (∀ k (hk : k < S.files.length), k < x → Lib.compareBytes S.files[k].name.data.toList s.data.toList < 0) ∧ Hid (∀ k (hk : k < S.files.length), y ≤ k → 0 ≤ Lib.compareBytes S.files[k].name.data.toList s.data.toList)) (fun i j => (intOf j - intOf i).toNat)
  case atStart => exact ⟨0, S.files.length, rfl, rfl, Nat.zero_le _, Nat.le_refl _, Lib.hid (fun k _ h => absurd h (by omega)), Lib.hid (fun k hk h => absurd hk (by omega))⟩
  case round =>
    obtain ⟨x, y, rfl, rfl, hxy, hy, hlo, hhi⟩ := hrel
    by_cases hlt : x < y
    · have hm : (x + y) / 2 < S.files.length := by omega
      obtain ⟨g, cap', hv', hgl, hc⟩ := fptrs_at H.out ((x + y) / 2) hm
      rw [Hv.out] at hv'
      injection hv' with hv1 _ hv2
      subst hv1; subst hv2
      have HF := Lib.hid (H.out.fat S.files[(x + y) / 2] (List.getElem_mem hm))
      have Hmid := Lib.hid (show ∀ k (hk : k < S.files.length), k < (x + y) / 2 → Lib.compareBytes S.files[k].name.data.toList S.files[(x + y) / 2].name.data.toList < 0 from fun k hk h => ordered_lt Ho.out h hm)
      have Hmid2 := Lib.hid (show ∀ k (hk : k < S.files.length), (x + y) / 2 < k → Lib.compareBytes S.files[(x + y) / 2].name.data.toList S.files[k].name.data.toList < 0 from fun k hk h => ordered_lt Ho.out h hk)
      have Hself := Lib.hid (show ∀ k (hk : k < S.files.length), k = (x + y) / 2 → S.files[k] = S.files[(x + y) / 2] from fun k hk h => by subst h; rfl)
      obtain ⟨M, hM⟩ : ∃ M, M = S.files[(x + y) / 2] := ⟨_, rfl⟩
      rw [← hM] at hc HF Hmid Hmid2 Hself
      clear hM
      obtain ⟨md, hmd⟩ : ∃ md, md = (x + y) / 2 := ⟨_, rfl⟩
      have hmdx : x ≤ md := by omega
      have hmdy : md < y := by omega
      have hmi : ((x : Int) + (y : Int)) / 2 = (md : Int) := by omega
      rw [← hmd] at Hmid Hmid2 Hself
      have Hmi := Lib.hid hmi
      have Hmd := Lib.hid hmd
      clear hmi hmd
      go_wp2_with fail
      refine (placeFn_any M s _ HF.out).mono ?_
      rintro e wx ⟨rfl, rfl⟩
      rw [Hmi.out]
      by_cases hcm : Lib.compareBytes M.name.data.toList s.data.toList < 0
      · have Hcm := Lib.hid hcm
        go_wp2_with fail
        go_round
        case rel => exact ⟨md + 1, y, by go_num, rfl, by omega, hy, Lib.hid (fun k hk hkx => by
          by_cases e : k = md
          · rw [Hself.out k hk e]; exact Hcm.out
          · exact cmp_trans (Hmid.out k hk (by omega)) Hcm.out), hhi⟩
        case measure => simp [intOf]; omega
      · have Hcm := Lib.hid hcm
        go_wp2_with fail
        go_round
        case rel => exact ⟨x, md, rfl, rfl, by omega, by omega, hlo, Lib.hid (fun k hk hky => by
          by_cases e : k = md
          · rw [Hself.out k hk e]; have := Hcm.out; omega
          · refine Int.not_lt.1 (fun hc2 => ?_)
            have h1 := cmp_trans (Hmid2.out k hk (by omega)) hc2
            have := Hcm.out
            omega)⟩
        case measure => simp [intOf]; omega
    · obtain rfl : x = y := by omega
      have hlow := Lib.hid (lower_eq hy hlo.out (fun k hk hx => Int.not_lt.2 (hhi.out k hk hx)))
      by_cases hxn : x < S.files.length
      · obtain ⟨g, cap', hv', hgl, hc⟩ := fptrs_at H.out x hxn
        rw [Hv.out] at hv'
        injection hv' with hv1 _ hv2
        subst hv1; subst hv2
        have HF := Lib.hid (H.out.fat S.files[x] (List.getElem_mem hxn))
        have his := Lib.hid (show isAt S.files s = (Lib.compareBytes S.files[x].name.data.toList s.data.toList == 0) by
          unfold isAt
          rw [hlow.out, List.getElem?_eq_getElem hxn]
          show decide (S.files[x].name = s) = _
          by_cases e : S.files[x].name = s
          · rw [e, cmp_self]; simp
          · rw [decide_eq_false e]
            symm
            rw [beq_eq_false_iff_ne]
            intro h
            exact e (name_eq.1 (cmp_zero h)))
        obtain ⟨M, hM⟩ : ∃ M, M = S.files[x] := ⟨_, rfl⟩
        rw [← hM] at hc HF his
        clear hM
        go_wp2_with fail
        refine (placeFn_any M s _ HF.out).mono ?_
        rintro e wx ⟨rfl, rfl⟩
        go_wp2_with fail
        go_ret2
        refine ⟨?_, rfl⟩
        show Ending.returned (Value.tuple #[Value.int .i64 (x : Int), Value.bool (Lib.compareBytes M.name.data.toList s.data.toList == 0)]) = _
        rw [hlow.out, his.out]
      · have his := Lib.hid (show isAt S.files s = false by
          unfold isAt
          rw [hlow.out, List.getElem?_eq_none (by omega)])
        go_wp2_with fail
        go_ret2
        refine ⟨?_, rfl⟩
        show Ending.returned (Value.tuple #[Value.int .i64 (x : Int), Value.bool false]) = _
        rw [hlow.out, his.out]

/-- the file of a name -/
def findF (l : List DFile) (s : ByteArray) : Option DFile := l.find? fun f => decide (f.name = s)
theorem place_any (b : Nat) (S : DSt) (s : ByteArray) (w : World) (h : DiskAt w b S) (ho : Ordered S.files) (hl : S.files.length ≤ 1000000000) :
    Calls Tryz.prog 134 #[.pointer (some ⟨b, 0, none⟩), .string s] w fun e w' => e = .returned (.tuple #[.int .i64 (lower S.files s : Nat), .bool (isAt S.files s)]) ∧ w = w' := by
  have c0 : w.cell? ⟨b, 0, none⟩ = some S.fv := h.blk.cell 0
  obtain ⟨ad, cap, hv⟩ := row_shape h.frow
  have H := Lib.hid h
  have Ho := Lib.hid ho
  have HS := Lib.hid (search_any b S s w h ho hl)
  rw [hv] at c0
  have hs := HS.out
  rw [hv] at hs
  have HS2 := Lib.hid hs
  clear h ho hs HS hv
  go_enter Tryz.func134, Tryz.ntmps134
  go_wp2_with fail
  refine HS2.out.mono ?_
  rintro e w' ⟨rfl, rfl⟩
  go_wp2_with fail
  go_ret2
  exact ⟨rfl, rfl⟩
theorem isAt_find {l : List DFile} (ho : Ordered l) (s : ByteArray) : (isAt l s = false ∧ findF l s = none) ∨ (∃ hx : lower l s < l.length, isAt l s = true ∧ (l[lower l s]).name = s ∧ findF l s = some (l[lower l s])) := by
  have hle : lower l s ≤ l.length := List.countP_le_length
  by_cases hf : ∃ i, ∃ hi : i < l.length, (l[i]).name = s
  · obtain ⟨i, hi, hn⟩ := hf
    have hlow : lower l s = i := lower_eq (by omega) (fun k hk hki => by
      have := ordered_lt ho hki hi
      rw [hn] at this
      exact this) (fun k hk hik hc => by
      by_cases e : k = i
      · subst e; rw [hn, cmp_self] at hc; omega
      · have := ordered_lt ho (show i < k by omega) hk
        rw [hn] at this
        have h2 := cmp_trans this hc
        rw [cmp_self] at h2
        omega)
    right
    subst hlow
    refine ⟨hi, ?_, hn, ?_⟩
    · unfold isAt; rw [List.getElem?_eq_getElem hi]; simpa using hn
    · unfold findF
      rw [List.find?_eq_some_iff_getElem]
      refine ⟨by simpa using hn, lower l s, hi, rfl, fun j hj => ?_⟩
      have := ordered_lt ho hj hi
      rw [hn] at this
      have hne : (l[j]'(by omega)).name ≠ s := by
        intro e
        rw [e, cmp_self] at this
        omega
      simpa using hne
  · left
    have hno : ∀ f ∈ l, f.name ≠ s := by
      intro f hf2 hn
      obtain ⟨i, hi, rfl⟩ := List.mem_iff_getElem.1 hf2
      exact hf ⟨i, hi, hn⟩
    refine ⟨?_, ?_⟩
    · unfold isAt
      by_cases hx : lower l s < l.length
      · rw [List.getElem?_eq_getElem hx]
        exact decide_eq_false (hno _ (List.getElem_mem hx))
      · rw [List.getElem?_eq_none (by omega)]
    · unfold findF
      rw [List.find?_eq_none]
      intro f hf2
      simpa using hno f hf2
theorem find_any (b : Nat) (S : DSt) (s : ByteArray) (w : World) (h : DiskAt w b S) (ho : Ordered S.files) (hl : S.files.length ≤ 1000000000) :
    Calls Tryz.prog 72 #[.pointer (some ⟨b, 0, none⟩), .string s] w fun e w' => e = .returned (match findF S.files s with | some f => .pointer (some ⟨f.g, 0, none⟩) | none => .pointer none) ∧ w = w' := by
  have hp := place_any b S s w h ho hl
  rcases isAt_find ho s with ⟨h1, h2⟩ | ⟨hx, h1, h2, h3⟩
  · rw [h1] at hp
    have HP := Lib.hid hp
    rw [h2]
    clear h ho hp h1 h2
    go_enter Tryz.func72, Tryz.ntmps72
    go_wp2_with fail
    refine HP.out.mono ?_
    rintro e w' ⟨rfl, rfl⟩
    go_wp2_with fail
    go_ret
    exact ⟨rfl, rfl⟩
  · rw [h1] at hp
    have HP := Lib.hid hp
    rw [h3]
    obtain ⟨g, cap', hv', hgl, hc⟩ := fptrs_at h (lower S.files s) hx
    have c0 : w.cell? ⟨b, 0, none⟩ = some S.fv := h.blk.cell 0
    rw [hv'] at c0
    generalize S.files[lower S.files s] = M at hc ⊢
    clear h ho hp h1 h2 h3 hv'
    go_enter Tryz.func72, Tryz.ntmps72
    go_wp2_with fail
    refine HP.out.mono ?_
    rintro e w' ⟨rfl, rfl⟩
    go_wp2_with fail
    go_ret
    exact ⟨rfl, rfl⟩
end Go.Proofs.YtaeklleogniimaaGreatDoor
