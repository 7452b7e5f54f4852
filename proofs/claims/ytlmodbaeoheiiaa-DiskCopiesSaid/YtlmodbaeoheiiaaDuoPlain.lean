/- The device and the document's device answer alike: plain. No program in sight. -/
import Derived.Test.YtlmodbaeoheiiaaRefWrite2
import Derived.Test.YtlmodbaeoheiiaaRefList
import Derived.Test.YtlmodbaeoheiiaaRename
import Derived.Test.YtlmodbaeoheiiaaLive
namespace Go.Proofs.Ytlmodbaeoheiiaa
open Go.RowKit
set_option linter.unusedVariables false

def toRF (f : PF) : RF := ⟨f.id, f.name, textOf f.last, textOf f.seen⟩
def toRP (p : DPiece) : RP := ⟨p.id, p.at_ * 64 + p.from_, p.text⟩
structure Rel (P : PS) (Q : QS) : Prop where
  files : (P.files.map toRF).Perm Q.files
  wait : P.wait.map toRP = Q.wait
  most : P.most = Q.most
  fuse : P.fuse = Q.fuse
  off : P.off = Q.off
  count : P.count = Q.count
  made : P.made = Q.made
abbrev NamesUp (l : List PF) : Prop := l.Pairwise fun f h => Lib.compareBytes f.name.data.toList h.name.data.toList < 0
theorem textOf_size (l : List UInt8) : (textOf l).size = l.length := rfl
theorem textOf_data (l : List UInt8) : (textOf l).data.toList = l := by unfold textOf; rw [List.toList_toArray]
theorem perm_getElem {α : Type} {l : List α} {i : Nat} (hi : i < l.length) : l.Perm (l[i] :: l.eraseIdx i) := by
  rw [List.eraseIdx_eq_take_drop_succ]
  have h : l = l.take i ++ l[i] :: l.drop (i + 1) := by rw [List.getElem_cons_drop, List.take_append_drop]
  exact (List.Perm.of_eq h).trans List.perm_middle
theorem perm_set {α : Type} {l : List α} {i : Nat} (hi : i < l.length) (x : α) : (l.set i x).Perm (x :: l.eraseIdx i) := by
  have h := perm_getElem (l := l.set i x) (i := i) (by rw [List.length_set]; exact hi)
  rw [List.getElem_set_self] at h
  have e : (l.set i x).eraseIdx i = l.eraseIdx i := by
    rw [List.eraseIdx_eq_take_drop_succ, List.eraseIdx_eq_take_drop_succ, List.take_set_of_le (Nat.le_refl _), List.drop_set_of_lt (by omega)]
  rw [e] at h
  exact h
theorem perm_erase {α : Type} {l m : List α} {i k : Nat} (h : l.Perm m) (hi : i < l.length) (hk : k < m.length) (he : l[i] = m[k]) : (l.eraseIdx i).Perm (m.eraseIdx k) := by
  have h1 := (perm_getElem hi).symm.trans (h.trans (perm_getElem hk))
  rw [he] at h1
  exact h1.cons_inv
theorem perm_sets {α : Type} {l m : List α} {i k : Nat} (h : l.Perm m) (hi : i < l.length) (hk : k < m.length) (he : l[i] = m[k]) (x : α) : (l.set i x).Perm (m.set k x) :=
  (perm_set hi x).trans (((perm_erase h hi hk he).cons x).trans (perm_set hk x).symm)
theorem perm_insert {α : Type} (l : List α) (i : Nat) (x : α) : (l.take i ++ x :: l.drop i).Perm (x :: l) := by
  have h := List.perm_middle (a := x) (l₁ := l.take i) (l₂ := l.drop i)
  rw [List.take_append_drop] at h
  exact h
theorem map_eraseIdx {α β : Type} (f : α → β) (l : List α) (i : Nat) : (l.eraseIdx i).map f = (l.map f).eraseIdx i := by
  rw [List.eraseIdx_eq_take_drop_succ, List.eraseIdx_eq_take_drop_succ, List.map_append, List.map_take, List.map_drop]
theorem names_inj {l : List PF} (h : NamesUp l) {f g : PF} (hf : f ∈ l) (hg : g ∈ l) (e : f.name = g.name) : f = g := by
  obtain ⟨i, hi, rfl⟩ := List.mem_iff_getElem.1 hf
  obtain ⟨j, hj, rfl⟩ := List.mem_iff_getElem.1 hg
  rcases Nat.lt_trichotomy i j with h1 | h1 | h1
  · have := List.pairwise_iff_getElem.1 h i j hi hj h1
    rw [e, cmp_self] at this
    omega
  · subst h1; rfl
  · have := List.pairwise_iff_getElem.1 h j i hj hi h1
    rw [e, cmp_self] at this
    omega
theorem refIdx_spec (l : List RF) (s : ByteArray) : (refIdx l s = -1 ∧ ∀ f ∈ l, f.name ≠ s) ∨ ∃ k, ∃ hk : k < l.length, refIdx l s = k ∧ l[k].name = s := by
  unfold refIdx
  cases h : l.findIdx? (fun f => f.name.toList == s.toList) with
  | none =>
    left
    refine ⟨rfl, fun f hf e => ?_⟩
    have := List.findIdx?_eq_none_iff.1 h f hf
    rw [e] at this
    simp at this
  | some k =>
    right
    obtain ⟨hk, h1, _⟩ := List.findIdx?_eq_some_iff_getElem.1 h
    refine ⟨k, hk, rfl, ?_⟩
    have e : (l[k]).name.toList = s.toList := by simpa using h1
    rw [ByteArray.toList_eq, ByteArray.toList_eq] at e
    exact bytes_ext e
theorem findI_spec {l : List PF} {s : ByteArray} : (findI l s = none ∧ ∀ f ∈ l, f.name ≠ s) ∨ ∃ i, ∃ hi : i < l.length, findI l s = some i ∧ l[i].name = s := by
  cases h : findI l s with
  | none => exact Or.inl ⟨rfl, findI_isNone (by rw [h]; rfl)⟩
  | some i =>
    right
    unfold findI at h
    obtain ⟨hi, h1, _⟩ := List.findIdx?_eq_some_iff_getElem.1 h
    exact ⟨i, hi, rfl, by simpa using h1⟩
/-- a name is found on both sides, or on none -/
theorem find_rel {P : PS} {Q : QS} (hr : Rel P Q) (hn : NamesUp P.files) (s : ByteArray) : (findI P.files s = none ∧ refIdx Q.files s = -1) ∨
    ∃ i k, ∃ hi : i < P.files.length, ∃ hk : k < Q.files.length, findI P.files s = some i ∧ refIdx Q.files s = k ∧ toRF P.files[i] = Q.files[k] := by
  rcases findI_spec (l := P.files) (s := s) with ⟨h1, h2⟩ | ⟨i, hi, h1, h2⟩
  · rcases refIdx_spec Q.files s with ⟨h3, _⟩ | ⟨k, hk, h3, h4⟩
    · exact Or.inl ⟨h1, h3⟩
    · have hm := (hr.files.mem_iff).2 (List.getElem_mem hk)
      obtain ⟨f, hf, e⟩ := List.mem_map.1 hm
      exact absurd (show f.name = s by rw [← h4, ← e]; rfl) (h2 f hf)
  · rcases refIdx_spec Q.files s with ⟨h3, h4⟩ | ⟨k, hk, h3, h4⟩
    · have hm := (hr.files.mem_iff).1 (List.mem_map_of_mem (List.getElem_mem hi))
      exact absurd h2 (h4 _ hm)
    · refine Or.inr ⟨i, k, hi, hk, h1, h3, ?_⟩
      have hm := (hr.files.mem_iff).2 (List.getElem_mem hk)
      obtain ⟨f, hf, e⟩ := List.mem_map.1 hm
      have : f = P.files[i] := names_inj hn hf (List.getElem_mem hi) (by rw [h2, ← h4, ← e]; rfl)
      rw [← e, this]

set_option linter.unusedSimpArgs false
theorem bempty : (⟨#[]⟩ : ByteArray) = ByteArray.empty := bytes_ext rfl
theorem Rel.create {P : PS} {Q : QS} (hr : Rel P Q) (hn : NamesUp P.files) (s : ByteArray) : (P.create s).1 = (Q.create s).1 ∧ Rel (P.create s).2 (Q.create s).2 := by
  unfold PS.create QS.create
  rw [hr.off]
  cases Q.off with
  | true => exact ⟨rfl, hr⟩
  | false =>
    simp only [Bool.false_eq_true, Bool.true_eq_false, if_false]
    cases okName s with
    | false => exact ⟨rfl, hr⟩
    | true =>
      simp only [Bool.false_eq_true, Bool.true_eq_false, if_false]
      rcases find_rel hr hn s with ⟨h1, h2⟩ | ⟨i, k, hi, hk, h1, h2, h3⟩
      · rw [h1, h2, if_neg (show ¬ ((none : Option Nat).isSome = true) by decide), if_neg (show ¬ (0 ≤ (-1 : Int)) by decide)]
        refine ⟨rfl, ?_, hr.wait, hr.most, hr.fuse, rfl, hr.count, by show P.made + 1 = Q.made + 1; rw [hr.made]⟩
        show ((P.files.take _ ++ _ :: P.files.drop _).map toRF).Perm (Q.files ++ [_])
        rw [← hr.made]
        exact ((perm_insert P.files _ _).map toRF).trans ((hr.files.cons _).trans (List.perm_append_singleton _ _).symm)
      · rw [h1, h2, if_pos (show (some i).isSome = true from rfl), if_pos (show 0 ≤ (k : Int) by omega)]
        exact ⟨rfl, hr⟩
theorem idAt_rel {P : PS} {Q : QS} {i k : Nat} (hi : i < P.files.length) (hk : k < Q.files.length) (h : toRF P.files[i] = Q.files[k]) : idAt P i = ridAt Q k := by
  unfold idAt ridAt
  rw [List.getElem?_eq_getElem hi, List.getElem?_eq_getElem hk, ← h]
  rfl
theorem Rel.remove {P : PS} {Q : QS} (hr : Rel P Q) (hn : NamesUp P.files) (s : ByteArray) : (P.remove s).1 = (Q.remove s).1 ∧ Rel (P.remove s).2 (Q.remove s).2 := by
  unfold PS.remove QS.remove
  rw [hr.off]
  cases Q.off with
  | true => exact ⟨rfl, hr⟩
  | false =>
    simp only [Bool.false_eq_true, Bool.true_eq_false, if_false]
    rcases find_rel hr hn s with ⟨h1, h2⟩ | ⟨i, k, hi, hk, h1, h2, h3⟩
    · rw [h1, h2, if_pos (show (-1 : Int) < 0 by decide)]
      exact ⟨rfl, hr⟩
    · rw [h1, h2, if_neg (show ¬ ((k : Int) < 0) by omega)]
      refine ⟨rfl, ?_, ?_, hr.most, hr.fuse, rfl, hr.count, hr.made⟩
      · show ((P.files.eraseIdx i).map toRF).Perm (Q.files.eraseIdx (k : Int).toNat)
        rw [map_eraseIdx, Int.toNat_natCast]
        exact perm_erase hr.files (by rw [List.length_map]; exact hi) hk (by rw [List.getElem_map]; exact h3)
      · show (P.wait.filter _).map toRP = Q.wait.filter _
        rw [Int.toNat_natCast, ← idAt_rel hi hk h3, ← hr.wait, List.filter_map]
        rfl
theorem Rel.rename {P : PS} {Q : QS} (hr : Rel P Q) (hn : NamesUp P.files) (s t : ByteArray) : (P.rename s t).1 = (Q.rename s t).1 ∧ Rel (P.rename s t).2 (Q.rename s t).2 := by
  unfold PS.rename QS.rename
  rw [hr.off]
  cases Q.off with
  | true => exact ⟨rfl, hr⟩
  | false =>
    simp only [Bool.false_eq_true, Bool.true_eq_false, if_false]
    cases okName t with
    | false => exact ⟨rfl, hr⟩
    | true =>
      simp only [Bool.false_eq_true, Bool.true_eq_false, if_false]
      rcases find_rel hr hn s with ⟨h1, h2⟩ | ⟨i, k, hi, hk, h1, h2, h3⟩
      · rw [h1, h2, if_pos (show (-1 : Int) < 0 by decide)]
        exact ⟨rfl, hr⟩
      · rw [h1, h2, if_neg (show ¬ ((k : Int) < 0) by omega)]
        rcases find_rel hr hn t with ⟨h4, h5⟩ | ⟨i2, k2, hi2, hk2, h4, h5, h6⟩
        · rw [h4, h5]
          show (if false = true then _ else _ : Int × PS).1 = (if 0 ≤ (-1 : Int) then _ else _ : Int × QS).1 ∧ Rel (if false = true then _ else _ : Int × PS).2 (if 0 ≤ (-1 : Int) then _ else _ : Int × QS).2
          rw [if_neg (show ¬ (false = true) by decide), if_neg (show ¬ (0 ≤ (-1 : Int)) by decide), List.getElem?_eq_getElem hi]
          refine ⟨rfl, ?_, hr.wait, hr.most, hr.fuse, rfl, hr.count, hr.made⟩
          show ((List.take _ _ ++ _ :: List.drop _ _).map toRF).Perm (Q.files.modify (k : Int).toNat _)
          rw [Int.toNat_natCast, ← set_modify hk (fun f => { f with name := t }) _ rfl]
          refine ((perm_insert (P.files.eraseIdx i) _ _).map toRF).trans ?_
          rw [List.map_cons, map_eraseIdx]
          have e : toRF { P.files[i] with name := t } = { Q.files[k] with name := t } := by rw [← h3]; rfl
          rw [e]
          exact ((perm_erase hr.files (by rw [List.length_map]; exact hi) hk (by rw [List.getElem_map]; exact h3)).cons _).trans (perm_set hk _).symm
        · rw [h4, h5]
          show (if true = true then _ else _ : Int × PS).1 = (if 0 ≤ (k2 : Int) then _ else _ : Int × QS).1 ∧ Rel (if true = true then _ else _ : Int × PS).2 (if 0 ≤ (k2 : Int) then _ else _ : Int × QS).2
          rw [if_pos rfl, if_pos (by omega)]
          exact ⟨rfl, hr⟩
theorem secs_rel (f : PF) : secsP f = rsecs (toRF f) := rfl
theorem used_rel {P : PS} {Q : QS} (hr : Rel P Q) : usedP P.files = rused Q.files := by
  unfold usedP rused
  have := (hr.files.map rsecs).sum_nat
  rw [List.map_map] at this
  exact this
theorem map_modify {α β : Type} (g : α → β) {l : List α} {i : Nat} (hi : i < l.length) (F : α → α) : (l.modify i F).map g = (l.map g).set i (g (F l[i])) := by
  apply List.ext_getElem?
  intro j
  rw [List.getElem?_map, List.getElem?_modify, List.getElem?_set, List.getElem?_map]
  by_cases e : i = j
  · subst e; simp [hi]
  · simp [e]
theorem rlay_rel (l : List UInt8) (a : Nat) (t : ByteArray) : textOf (layB l a t.data.toList) = rlay (textOf l) a t := by
  unfold rlay
  rw [textOf_data]
theorem Rel.step {P : PS} {Q : QS} (hr : Rel P Q) {i k a : Nat} (hi : i < P.files.length) (hk : k < Q.files.length) (h : toRF P.files[i] = Q.files[k]) (t : ByteArray) :
    Rel (wrStep P i a t) (rwStep Q k a t) ∧ ∃ hi2 : i < (wrStep P i a t).files.length, ∃ hk2 : k < (rwStep Q k a t).files.length, toRF (wrStep P i a t).files[i] = (rwStep Q k a t).files[k] := by
  have e : toRF { P.files[i] with seen := layB P.files[i].seen a t.data.toList } = { Q.files[k] with seen := rlay Q.files[k].seen a t } := by
    rw [← h]
    unfold toRF
    simp only [rlay_rel]
  refine ⟨⟨?_, ?_, hr.most, ?_, hr.off, ?_, hr.made⟩, by show i < (List.modify _ _ _).length; rw [List.length_modify]; exact hi, by show k < (List.modify _ _ _).length; rw [List.length_modify]; exact hk, ?_⟩
  · show ((P.files.modify i _).map toRF).Perm (Q.files.modify k _)
    rw [map_modify toRF hi, ← set_modify hk (fun f => { f with seen := rlay f.seen a t }) _ rfl, e]
    exact perm_sets hr.files (by rw [List.length_map]; exact hi) hk (by rw [List.getElem_map]; exact h) _
  · show (P.wait ++ [_]).map toRP = Q.wait ++ [_]
    have e : toRP ⟨ridAt Q k, ((a / 64 : Nat) : Int), ((a % 64 : Nat) : Int), t⟩ = ⟨ridAt Q k, (a : Int), t⟩ := by
      unfold toRP
      simp only [RP.mk.injEq, and_true, true_and]
      omega
    rw [List.map_append, hr.wait, idAt_rel hi hk h, ← e]
    rfl
  · show (if 0 < P.fuse then P.fuse - 1 else P.fuse) = (if 0 < Q.fuse then Q.fuse - 1 else Q.fuse)
    rw [hr.fuse]
  · show P.count + 1 = Q.count + 1
    rw [hr.count]
  · show toRF ((P.files.modify i _)[i]'_) = (Q.files.modify k _)[k]'_
    rw [List.getElem_modify_eq, List.getElem_modify_eq]
    exact e
theorem Rel.go {m : Nat} : ∀ {P : PS} {Q : QS} (hr : Rel P Q) {i k a : Nat} (hi : i < P.files.length) (hk : k < Q.files.length) (h : toRF P.files[i] = Q.files[k]) (t : ByteArray), (wrGo m P i a t).1 = (rwGo m Q k a t).1 ∧ Rel (wrGo m P i a t).2 (rwGo m Q k a t).2 := by
  induction m with
  | zero => intro P Q hr i k a hi hk h t; exact ⟨rfl, hr⟩
  | succ m ih =>
    intro P Q hr i k a hi hk h t
    unfold wrGo rwGo
    by_cases h0 : t.size = 0
    · rw [if_pos h0, if_pos h0]; exact ⟨rfl, hr⟩
    · rw [if_neg h0, if_neg h0, hr.fuse]
      by_cases hf : Q.fuse = 0
      · rw [if_pos hf, if_pos hf]
        exact ⟨rfl, hr.files, hr.wait, hr.most, rfl, rfl, hr.count, hr.made⟩
      · rw [if_neg hf, if_neg hf]
        obtain ⟨h1, hi2, hk2, h2⟩ := hr.step (a := a) hi hk h (t.extract 0 (room a t))
        exact ih h1 hi2 hk2 h2 _
theorem Rel.write {P : PS} {Q : QS} (hr : Rel P Q) (hn : NamesUp P.files) (s : ByteArray) (a : Int) (t : ByteArray) : (P.write s a t).1 = (Q.write s a t).1 ∧ Rel (P.write s a t).2 (Q.write s a t).2 := by
  unfold PS.write QS.write
  rw [hr.off]
  cases Q.off with
  | true => exact ⟨rfl, hr⟩
  | false =>
    simp only [Bool.false_eq_true, Bool.true_eq_false, if_false]
    rcases find_rel hr hn s with ⟨h1, h2⟩ | ⟨i, k, hi, hk, h1, h2, h3⟩
    · rw [h1, h2, if_pos (show (-1 : Int) < 0 by decide)]
      exact ⟨rfl, hr⟩
    · rw [h1, h2, if_neg (show ¬ ((k : Int) < 0) by omega)]
      have hsec : secsI P i = rsecsI Q k := by
        unfold secsI rsecsI
        rw [List.getElem?_eq_getElem hi, List.getElem?_eq_getElem hk, ← h3]
        rfl
      show (if _ then _ else _ : Int × PS).1 = _ ∧ Rel (if _ then _ else _ : Int × PS).2 _
      rw [Int.toNat_natCast, ← hsec, ← used_rel hr, ← hr.most]
      by_cases hr2 : a < 0 ∨ 2097152 - (t.size : Int) < a
      · rw [if_pos hr2, if_pos hr2]; exact ⟨rfl, hr⟩
      · rw [if_neg hr2, if_neg hr2]
        by_cases hf : 0 < t.size ∧ P.most - (usedP P.files : Nat) < ((secs (a.toNat + t.size) : Nat) : Int) - ((secsI P i : Nat) : Int)
        · rw [if_pos hf, if_pos hf]; exact ⟨rfl, hr⟩
        · rw [if_neg hf, if_neg hf]
          exact hr.go hi hk h3 t
def QS.size (Q : QS) (s : ByteArray) : Int × Int := if Q.off then (0, 14) else if refIdx Q.files s < 0 then (0, 8) else ((((Q.files[(refIdx Q.files s).toNat]?.map RF.seen).getD ByteArray.empty).size : Nat), 0)
theorem Rel.size {P : PS} {Q : QS} (hr : Rel P Q) (hn : NamesUp P.files) (s : ByteArray) : P.size s = Q.size s := by
  unfold PS.size QS.size
  rw [hr.off]
  cases Q.off with
  | true => rfl
  | false =>
    simp only [Bool.false_eq_true, Bool.true_eq_false, if_false]
    rcases find_rel hr hn s with ⟨h1, h2⟩ | ⟨i, k, hi, hk, h1, h2, h3⟩
    · rw [h1, h2, if_pos (show (-1 : Int) < 0 by decide)]
    · rw [h1, h2, if_neg (show ¬ ((k : Int) < 0) by omega)]
      show (((seenI P i : Nat) : Int), (0 : Int)) = _
      unfold seenI
      rw [Int.toNat_natCast, List.getElem?_eq_getElem hi, List.getElem?_eq_getElem hk, ← h3]
      rfl
theorem lastF_rel {p : DPiece} (hp : OkPiece p) (n : Nat) (f : PF) : toRF (lastF p n f) = rlastF (toRP p) n (toRF f) := by
  obtain ⟨h1, h2, h3⟩ := hp
  unfold lastF rlastF
  by_cases h : f.id = p.id ∧ 0 < n
  · rw [if_pos h, if_pos (show (toRF f).id = (toRP p).id ∧ 0 < n from h)]
    unfold toRF
    simp only
    rw [← extract_take, rlay_rel]
    rfl
  · rw [if_neg h, if_neg (show ¬ ((toRF f).id = (toRP p).id ∧ 0 < n) from h)]
theorem perm_last {l : List PF} {m : List RF} (h : (l.map toRF).Perm m) {p : DPiece} (hp : OkPiece p) (n : Nat) : ((l.map (lastF p n)).map toRF).Perm (m.map (rlastF (toRP p) n)) := by
  have e : (l.map (lastF p n)).map toRF = (l.map toRF).map (rlastF (toRP p) n) := by
    rw [List.map_map, List.map_map]
    exact List.map_congr_left (fun f _ => lastF_rel hp n f)
  rw [e]
  exact h.map _
theorem perm_sync {w : List DPiece} : ∀ {l : List PF} {m : List RF}, (l.map toRF).Perm m → (∀ p ∈ w, OkPiece p) → ((syncF w l).map toRF).Perm (rsyncF (w.map toRP) m) := by
  induction w with
  | nil => intro l m h _; exact h
  | cons p r ih =>
    intro l m h hp
    exact ih (perm_last h (hp p (List.mem_cons_self ..)) p.text.size) (fun q hq => hp q (List.mem_cons_of_mem _ hq))
theorem perm_crash {w : List (DPiece × Int)} : ∀ {l : List PF} {m : List RF}, (l.map toRF).Perm m → (∀ q ∈ w, OkPiece q.1) → ((crashF w l).map toRF).Perm (rcrashF (w.map fun q => (toRP q.1, q.2)) m) := by
  induction w with
  | nil => intro l m h _; exact h
  | cons p r ih =>
    intro l m h hp
    exact ih (perm_last h (hp p (List.mem_cons_self ..)) _) (fun q hq => hp q (List.mem_cons_of_mem _ hq))
theorem zip_toRP (w : List DPiece) (l : List Int) : (w.map toRP).zip l = (w.zip l).map fun q => (toRP q.1, q.2) := by
  rw [List.zip_map_left]
  rfl
theorem Rel.sync {P : PS} {Q : QS} (hr : Rel P Q) (hp : ∀ p ∈ P.wait, OkPiece p) : Rel P.sync Q.sync :=
  ⟨by show ((syncF P.wait P.files).map toRF).Perm (rsyncF Q.wait Q.files); rw [← hr.wait]; exact perm_sync hr.files hp, rfl, hr.most, hr.fuse, hr.off, hr.count, hr.made⟩
theorem Rel.crash {P : PS} {Q : QS} (hr : Rel P Q) (hp : ∀ p ∈ P.wait, OkPiece p) (l : List Int) : Rel (P.crash l) (Q.crash l) := by
  refine ⟨?_, rfl, hr.most, rfl, rfl, hr.count, hr.made⟩
  show (((crashF (P.wait.zip l) P.files).map seenF).map toRF).Perm ((rcrashF (Q.wait.zip l) Q.files).map rseenF)
  rw [← hr.wait, zip_toRP]
  have h := (perm_crash (w := P.wait.zip l) hr.files (fun q hq => hp _ (List.of_mem_zip hq).1)).map rseenF
  rw [List.map_map] at h ⊢
  exact h
def PS.spoil (P : PS) (s : ByteArray) (a y : Int) : Int × PS := match findI P.files s with
  | none => (8, P)
  | some i => match P.files[i]? with
    | none => (8, P)
    | some f => if a < 0 ∨ (f.last.length : Int) ≤ a then (2, P) else (0, { P with files := P.files.set i { f with last := bentAt f.last a.toNat y, seen := bentAt f.seen a.toNat y } })
theorem Rel.spoil {P : PS} {Q : QS} (hr : Rel P Q) (hn : NamesUp P.files) (s : ByteArray) (a y : Int) : (P.spoil s a y).1 = (Q.spoil s a y).1 ∧ Rel (P.spoil s a y).2 (Q.spoil s a y).2 := by
  unfold PS.spoil QS.spoil
  rcases find_rel hr hn s with ⟨h1, h2⟩ | ⟨i, k, hi, hk, h1, h2, h3⟩
  · rw [h1, h2, if_pos (show (-1 : Int) < 0 by decide)]; exact ⟨rfl, hr⟩
  · rw [h1, h2, if_neg (show ¬ ((k : Int) < 0) by omega), Int.toNat_natCast, List.getElem?_eq_getElem hk]
    show (match P.files[i]? with | none => _ | some f => _ : Int × PS).1 = _ ∧ Rel (match P.files[i]? with | none => _ | some f => _ : Int × PS).2 _
    rw [List.getElem?_eq_getElem hi]
    have hl : (Q.files[k]).last.size = P.files[i].last.length := by rw [← h3]; rfl
    show (if _ then _ else _ : Int × PS).1 = (if a < 0 ∨ ((Q.files[k]).last.size : Int) ≤ a then _ else _ : Int × QS).1 ∧ Rel (if _ then _ else _ : Int × PS).2 (if a < 0 ∨ ((Q.files[k]).last.size : Int) ≤ a then _ else _ : Int × QS).2
    rw [hl]
    by_cases hc : a < 0 ∨ (P.files[i].last.length : Int) ≤ a
    · rw [if_pos hc, if_pos hc]; exact ⟨rfl, hr⟩
    · rw [if_neg hc, if_neg hc]
      refine ⟨rfl, ?_, hr.wait, hr.most, hr.fuse, hr.off, hr.count, hr.made⟩
      show ((P.files.set i _).map toRF).Perm (Q.files.set k _)
      rw [List.map_set]
      have e : toRF { P.files[i] with last := bentAt P.files[i].last a.toNat y, seen := bentAt P.files[i].seen a.toNat y } = { Q.files[k] with last := rbent Q.files[k].last a.toNat y, seen := rbent Q.files[k].seen a.toNat y } := by
        rw [← h3]
        unfold toRF rbent
        simp only [textOf_data]
      rw [e]
      exact perm_sets hr.files (by rw [List.length_map]; exact hi) hk (by rw [List.getElem_map]; exact h3) _
theorem Rel.arm {P : PS} {Q : QS} (hr : Rel P Q) (n : Int) : (P.arm n).1 = (if Q.off then 14 else if n < 0 then 1 else 0) ∧ Rel (P.arm n).2 (if Q.off then Q else if n < 0 then Q else { Q with fuse := n }) := by
  unfold PS.arm
  rw [hr.off]
  cases Q.off with
  | true => exact ⟨rfl, hr⟩
  | false =>
    simp only [Bool.false_eq_true, Bool.true_eq_false, if_false]
    by_cases h : n < 0
    · rw [if_pos h, if_pos h, if_pos h]; exact ⟨rfl, hr⟩
    · rw [if_neg h, if_neg h, if_neg h]
      exact ⟨rfl, hr.files, hr.wait, hr.most, rfl, rfl, hr.count, hr.made⟩
/-- what the document's device reads -/
def QS.read (Q : QS) (s : ByteArray) (a n : Int) : ByteArray × Int := if Q.off then (ByteArray.empty, 14) else if refIdx Q.files s < 0 then (ByteArray.empty, 8) else if a < 0 ∨ n < 0 then (ByteArray.empty, 2) else
  match Q.files[(refIdx Q.files s).toNat]? with
  | none => (ByteArray.empty, 8)
  | some f => if (f.seen.size : Int) ≤ a then (ByteArray.empty, 0) else (partOf f.seen a.toNat n.toNat, 0)
theorem partOf_data (t : ByteArray) (a n : Nat) : (partOf t a n).data.toList = (t.data.toList.drop a).take n := by
  have h1 : (t.extract a t.size).data.toList = t.data.toList.drop a := by
    rw [bextract, List.take_of_length_le (by rw [blen]; exact Nat.le_refl _)]
  unfold partOf
  by_cases h : n < t.size - a
  · rw [if_pos h, bextract, h1, List.drop_zero]
  · rw [if_neg h, h1, List.take_of_length_le (by rw [List.length_drop, blen]; omega)]
theorem Rel.read {P : PS} {Q : QS} (hr : Rel P Q) (hn : NamesUp P.files) (s : ByteArray) (a n : Int) : P.read s a n = Q.read s a n := by
  unfold PS.read QS.read
  rw [hr.off]
  cases Q.off with
  | true => rfl
  | false =>
    simp only [Bool.false_eq_true, Bool.true_eq_false, if_false]
    rcases find_rel hr hn s with ⟨h1, h2⟩ | ⟨i, k, hi, hk, h1, h2, h3⟩
    · rw [h1, h2, if_pos (show (-1 : Int) < 0 by decide)]; rfl
    · rw [h1, h2, if_neg (show ¬ ((k : Int) < 0) by omega)]
      show (if _ then _ else _ : ByteArray × Int) = _
      by_cases hc : a < 0 ∨ n < 0
      · rw [if_pos hc, if_pos hc]; rfl
      · rw [if_neg hc, if_neg hc, Int.toNat_natCast, List.getElem?_eq_getElem hk]
        have hs : seenAt P i = P.files[i].seen := by unfold seenAt; rw [List.getElem?_eq_getElem hi]; rfl
        have hq : (Q.files[k]).seen = textOf P.files[i].seen := by rw [← h3]; rfl
        show _ = (if (((Q.files[k]).seen.size : Nat) : Int) ≤ a then _ else _ : ByteArray × Int)
        rw [hs, hq, textOf_size]
        by_cases hp : (P.files[i].seen.length : Int) ≤ a
        · rw [if_pos hp, List.drop_eq_nil_of_le (by omega), List.take_nil]
          rfl
        · rw [if_neg hp]
          have : textOf ((P.files[i].seen.drop a.toNat).take n.toNat) = partOf (textOf P.files[i].seen) a.toNat n.toNat := bytes_ext (by rw [textOf_data, partOf_data, textOf_data])
          rw [this]
/-- texts in order -/
theorem less_cmp (a b : List UInt8) : Op.bytesLess a b = true ↔ Lib.compareBytes a b < 0 := by
  induction a generalizing b with
  | nil =>
    cases b with
    | nil => simp [Op.bytesLess, Lib.compareBytes]
    | cons y b => simp [Op.bytesLess, Lib.compareBytes]
  | cons x a ih =>
    cases b with
    | nil => simp [Op.bytesLess, Lib.compareBytes]
    | cons y b =>
      have h := ih b
      simp only [Op.bytesLess, Lib.compareBytes]
      by_cases h1 : x < y
      · simp [h1]
      · by_cases h2 : y < x
        · have hne : ¬ (x = y) := fun e => by subst e; exact h1 h2
          simp [h1, h2, hne]
        · have he : x = y := by
            have h3 : x.toNat = y.toNat := by
              rw [UInt8.lt_iff_toNat_lt] at h1 h2
              omega
            exact UInt8.toNat_inj.1 h3
          subst he
          simp only [h1, if_false, decide_false, Bool.false_or, beq_self_eq_true, Bool.true_and]
          exact h
abbrev TextsUp (l : List ByteArray) : Prop := l.Pairwise fun a b => Lib.compareBytes a.data.toList b.data.toList < 0
def lessB (x y : ByteArray) : Bool := Op.bytesLess x.toList y.toList
theorem lessB_iff (x y : ByteArray) : lessB x y = true ↔ Lib.compareBytes x.data.toList y.data.toList < 0 := by
  unfold lessB
  rw [ByteArray.toList_eq, ByteArray.toList_eq]
  exact less_cmp _ _
theorem insFold_true (x : ByteArray) : ∀ (L acc : List ByteArray), L.foldl (insStep x) (acc, true) = (acc ++ L, true)
  | [], acc => by simp
  | y :: r, acc => by
    show r.foldl (insStep x) (insStep x (acc, true) y) = _
    have e : insStep x (acc, true) y = (acc ++ [y], true) := by unfold insStep; rw [if_neg (fun h => by cases h.1)]
    rw [e, insFold_true x r]
    simp
theorem insFold_false (x : ByteArray) : ∀ (L acc : List ByteArray), (∀ y ∈ L, lessB x y = false) → L.foldl (insStep x) (acc, false) = (acc ++ L, false)
  | [], acc, _ => by simp
  | y :: r, acc, h => by
    show r.foldl (insStep x) (insStep x (acc, false) y) = _
    have hy : Op.bytesLess x.toList y.toList = false := h y (List.mem_cons_self ..)
    have e : insStep x (acc, false) y = (acc ++ [y], false) := by unfold insStep; rw [if_neg (fun h => by rw [hy] at h; cases h.2)]
    rw [e, insFold_false x r _ (fun z hz => h z (List.mem_cons_of_mem _ hz))]
    simp
theorem mem_while (p : ByteArray → Bool) : ∀ (X : List ByteArray) (y : ByteArray), y ∈ X.takeWhile p → p y = true
  | [], y, h => by simp at h
  | z :: r, y, h => by
    rw [List.takeWhile_cons] at h
    split at h
    · next hz =>
      rcases List.mem_cons.1 h with rfl | h
      · exact hz
      · exact mem_while p r y h
    · cases h
theorem insName_eq (x : ByteArray) (X : List ByteArray) : insName x X = X.takeWhile (fun y => !lessB x y) ++ x :: X.dropWhile (fun y => !lessB x y) := by
  have hA : ∀ y ∈ X.takeWhile (fun y => !lessB x y), lessB x y = false := fun y hy => by
    have := mem_while _ X y hy
    simpa using this
  have hX : X = X.takeWhile (fun y => !lessB x y) ++ X.dropWhile (fun y => !lessB x y) := List.takeWhile_append_dropWhile.symm
  have hB := List.head?_dropWhile_not (fun y => !lessB x y) X
  generalize X.takeWhile (fun y => !lessB x y) = A at hA hX
  generalize X.dropWhile (fun y => !lessB x y) = B at hX hB
  unfold insName insFold
  rw [hX, List.foldl_append, insFold_false x A [] hA, List.nil_append]
  cases B with
  | nil => simp
  | cons y r =>
    have hy : Op.bytesLess x.toList y.toList = true := by simpa [lessB] using hB
    show (if (r.foldl (insStep x) (insStep x (A, false) y)).2 = true then _ else _) = _
    have e : insStep x (A, false) y = (A ++ [x] ++ [y], true) := by unfold insStep; rw [if_pos ⟨rfl, hy⟩]
    have e2 : List.foldl (insStep x) (A, false) (y :: r) = (A ++ [x] ++ [y] ++ r, true) := by
      show r.foldl (insStep x) (insStep x (A, false) y) = _
      rw [e, insFold_true]
    show (if (List.foldl (insStep x) (A, false) (y :: r)).2 = true then (List.foldl (insStep x) (A, false) (y :: r)).1 else _) = _
    rw [e2]
    simp
theorem insName_perm (x : ByteArray) (X : List ByteArray) : (insName x X).Perm (x :: X) := by
  rw [insName_eq]
  have h := List.perm_middle (a := x) (l₁ := X.takeWhile (fun y => !lessB x y)) (l₂ := X.dropWhile (fun y => !lessB x y))
  rw [List.takeWhile_append_dropWhile] at h
  exact h
theorem insName_up {x : ByteArray} {X : List ByteArray} (h : TextsUp X) (hx : x ∉ X) : TextsUp (insName x X) := by
  rw [insName_eq]
  have hA : ∀ y ∈ X.takeWhile (fun y => !lessB x y), lessB x y = false := fun y hy => by
    have := mem_while _ X y hy
    simpa using this
  have hX : X = X.takeWhile (fun y => !lessB x y) ++ X.dropWhile (fun y => !lessB x y) := List.takeWhile_append_dropWhile.symm
  have hB := List.head?_dropWhile_not (fun y => !lessB x y) X
  generalize X.takeWhile (fun y => !lessB x y) = A at hA hX
  generalize X.dropWhile (fun y => !lessB x y) = B at hX hB
  subst hX
  obtain ⟨h1, h2, h3⟩ := List.pairwise_append.1 h
  have hAx : ∀ y ∈ A, Lib.compareBytes y.data.toList x.data.toList < 0 := fun y hy => by
    have h4 : ¬ Lib.compareBytes x.data.toList y.data.toList < 0 := fun h5 => by
      have := hA y hy
      rw [(lessB_iff x y).2 h5] at this
      cases this
    have h6 : Lib.compareBytes x.data.toList y.data.toList ≠ 0 := fun h7 => hx (by
      have : x = y := bytes_ext (cmp_zero h7)
      rw [this]; exact List.mem_append_left _ hy)
    rw [cmp_anti]
    omega
  have hxB : ∀ y ∈ B, Lib.compareBytes x.data.toList y.data.toList < 0 := by
    cases B with
    | nil => intro y hy; cases hy
    | cons z r =>
      have hz : lessB x z = true := by simpa using hB
      have hz2 := (lessB_iff x z).1 hz
      intro y hy
      rcases List.mem_cons.1 hy with rfl | hy
      · exact hz2
      · exact cmp_trans hz2 ((List.pairwise_cons.1 h2).1 y hy)
  refine List.pairwise_append.2 ⟨h1, List.pairwise_cons.2 ⟨hxB, h2⟩, fun a ha b hb => ?_⟩
  rcases List.mem_cons.1 hb with rfl | hb
  · exact hAx a ha
  · exact h3 a ha b hb
theorem listR_spec : ∀ (l : List RF) (acc : List ByteArray), (acc ++ l.map RF.name).Nodup → TextsUp acc → (l.foldl (fun out f => insName f.name out) acc).Perm (acc ++ l.map RF.name) ∧ TextsUp (l.foldl (fun out f => insName f.name out) acc)
  | [], acc, _, h => ⟨by simp, h⟩
  | f :: r, acc, hd, h => by
    have hfa : f.name ∉ acc := fun hm => by
      rw [List.map_cons] at hd
      exact (List.nodup_append.1 hd).2.2 f.name hm f.name (List.mem_cons_self ..) rfl
    have hp : (insName f.name acc ++ r.map RF.name).Perm (acc ++ (f :: r).map RF.name) := by
      rw [List.map_cons]
      exact ((insName_perm f.name acc).append_right _).trans List.perm_middle.symm
    obtain ⟨k1, k2⟩ := listR_spec r (insName f.name acc) (hp.nodup_iff.2 hd) (insName_up h hfa)
    exact ⟨k1.trans hp, k2⟩
theorem list_rel {P : PS} {Q : QS} (hr : Rel P Q) (hn : NamesUp P.files) : listR Q.files = P.files.map PF.name := by
  have hu : TextsUp (P.files.map PF.name) := by
    rw [TextsUp, List.pairwise_map]
    exact hn
  have hnd : (P.files.map PF.name).Nodup := hu.imp (fun {a b} h e => by subst e; rw [cmp_self] at h; omega)
  have hp : (P.files.map PF.name).Perm (Q.files.map RF.name) := by
    have := hr.files.map RF.name
    rw [List.map_map] at this
    exact this
  obtain ⟨h1, h2⟩ := listR_spec Q.files [] (by rw [List.nil_append]; exact hp.nodup_iff.1 hnd) List.Pairwise.nil
  rw [List.nil_append] at h1
  exact List.Perm.eq_of_pairwise (le := fun a b => Lib.compareBytes a.data.toList b.data.toList < 0) (fun a b _ _ h3 h4 => by
    have := cmp_trans h3 h4
    rw [cmp_self] at this
    omega) h2 hu (h1.trans hp.symm)
end Go.Proofs.Ytlmodbaeoheiiaa
