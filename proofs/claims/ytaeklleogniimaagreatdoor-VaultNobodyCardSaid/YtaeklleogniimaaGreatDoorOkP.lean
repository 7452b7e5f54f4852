/- What stays true of a device, and its calls as plain functions. Conditions: sizes. -/
import Derived.Test.YtaeklleogniimaaGreatDoorAppend
namespace Go.Proofs.YtaeklleogniimaaGreatDoor
open Go.RowKit
set_option linter.unusedVariables false

structure OkP (n : Nat) (P : PS) : Prop where
  names : P.files.Pairwise fun f h => Lib.compareBytes f.name.data.toList h.name.data.toList < 0
  flen : P.files.length ≤ n
  wlen : P.wait.length ≤ n
  count : 0 ≤ P.count ∧ P.count ≤ n
  made : 0 ≤ P.made ∧ P.made ≤ n
  most : 0 ≤ P.most ∧ P.most ≤ 32768
  fuse : P.fuse ≤ 9223372036854775807
  small : ∀ f ∈ P.files, f.seen.length ≤ 2097152 ∧ f.last.length ≤ 2097152
  wait : ∀ p ∈ P.wait, OkPiece p
theorem OkP.mono {n m : Nat} {P : PS} (h : OkP n P) (hm : n ≤ m) : OkP m P :=
  ⟨h.names, Nat.le_trans h.flen hm, Nat.le_trans h.wlen hm, ⟨h.count.1, by have := h.count.2; omega⟩, ⟨h.made.1, by have := h.made.2; omega⟩, h.most, h.fuse, h.small, h.wait⟩
theorem ordered_pl {l : List DFile} : Ordered l ↔ (l.map DFile.pl).Pairwise fun f h => Lib.compareBytes f.name.data.toList h.name.data.toList < 0 := by
  unfold Ordered
  rw [List.pairwise_map]
  rfl
theorem OkP.ready {n : Nat} {S : DSt} (h : OkP n S.pl) (hn : n ≤ 1000000000) : Ready S := by
  refine ⟨ordered_pl.2 h.names, ?_, ?_, h.most, Nat.le_trans h.wlen (by omega), ?_, h.fuse⟩
  · have := h.flen
    rw [pl_files, List.length_map] at this
    omega
  · intro f hf
    have := h.small f.pl (List.mem_map_of_mem hf)
    exact ⟨Nat.le_trans this.1 (by omega), Nat.le_trans this.2 (by omega)⟩
  · have := h.count
    have h1 : S.pl.count = S.count := rfl
    omega
theorem names_map {l : List PF} {F : PF → PF} (hF : ∀ f, (F f).name = f.name) (h : l.Pairwise fun f h => Lib.compareBytes f.name.data.toList h.name.data.toList < 0) : (l.map F).Pairwise fun f h => Lib.compareBytes f.name.data.toList h.name.data.toList < 0 := by
  rw [List.pairwise_map]
  exact h.imp (fun {a b} hab => by rw [hF a, hF b]; exact hab)
theorem lastF_name (p : DPiece) (n : Nat) (f : PF) : (lastF p n f).name = f.name := by unfold lastF; split <;> rfl
theorem lastF_seen (p : DPiece) (n : Nat) (f : PF) : (lastF p n f).seen = f.seen := by unfold lastF; split <;> rfl
theorem lastF_id (p : DPiece) (n : Nat) (f : PF) : (lastF p n f).id = f.id := by unfold lastF; split <;> rfl
theorem small_lastF2 {l : List PF} {p : DPiece} {n : Nat} (h : ∀ f ∈ l, f.seen.length ≤ 2097152 ∧ f.last.length ≤ 2097152) (hp : OkPiece p) (hn : n ≤ p.text.size) : ∀ f ∈ l.map (lastF p n), f.seen.length ≤ 2097152 ∧ f.last.length ≤ 2097152 := by
  intro f hf
  obtain ⟨g, hg, rfl⟩ := List.mem_map.1 hf
  obtain ⟨h1, h2, h3⟩ := hp
  have := h g hg
  unfold lastF
  split
  · refine ⟨this.1, ?_⟩
    show (layB _ _ _).length ≤ _
    rw [layB_length, take_size hn]
    unfold spot
    omega
  · exact this
/-- a list of files that lasted more: same names, same length, no longer than may be -/
def FilesOk (l l' : List PF) : Prop := l'.length = l.length ∧ (l.Pairwise (fun f h => Lib.compareBytes f.name.data.toList h.name.data.toList < 0) → l'.Pairwise fun f h => Lib.compareBytes f.name.data.toList h.name.data.toList < 0) ∧ ((∀ f ∈ l, f.seen.length ≤ 2097152 ∧ f.last.length ≤ 2097152) → ∀ f ∈ l', f.seen.length ≤ 2097152 ∧ f.last.length ≤ 2097152)
theorem FilesOk.refl (l : List PF) : FilesOk l l := ⟨rfl, id, id⟩
theorem FilesOk.trans {a b c : List PF} (h : FilesOk a b) (k : FilesOk b c) : FilesOk a c := ⟨k.1.trans h.1, fun x => k.2.1 (h.2.1 x), fun x => k.2.2 (h.2.2 x)⟩
theorem filesOk_lastF {l : List PF} {p : DPiece} {n : Nat} (hp : OkPiece p) (hn : n ≤ p.text.size) : FilesOk l (l.map (lastF p n)) :=
  ⟨by simp, names_map (lastF_name p n), fun h => small_lastF2 h hp hn⟩
theorem filesOk_sync {l : List DPiece} : ∀ {fs : List PF}, (∀ p ∈ l, OkPiece p) → FilesOk fs (syncF l fs) := by
  induction l with
  | nil => intro fs _; exact FilesOk.refl _
  | cons p r ih =>
    intro fs h
    exact (filesOk_lastF (h p (List.mem_cons_self ..)) (Nat.le_refl _)).trans (ih (fun q hq => h q (List.mem_cons_of_mem _ hq)))
theorem filesOk_crash {l : List (DPiece × Int)} : ∀ {fs : List PF}, (∀ q ∈ l, OkPiece q.1) → FilesOk fs (crashF l fs) := by
  induction l with
  | nil => intro fs _; exact FilesOk.refl _
  | cons p r ih =>
    intro fs h
    exact (filesOk_lastF (h p (List.mem_cons_self ..)) (fateN_le _ _)).trans (ih (fun q hq => h q (List.mem_cons_of_mem _ hq)))
theorem filesOk_seen {l : List PF} : FilesOk l (l.map seenF) :=
  ⟨by simp, names_map (fun _ => rfl), fun h f hf => by
    obtain ⟨g, hg, rfl⟩ := List.mem_map.1 hf
    exact ⟨(h g hg).2, (h g hg).2⟩⟩

def PS.sync (P : PS) : PS := { P with files := syncF P.wait P.files, wait := [] }
def PS.crash (P : PS) (l : List Int) : PS := { P with files := (crashF (P.wait.zip l) P.files).map seenF, wait := [], fuse := -1, off := false }
theorem OkP.sync {n : Nat} {P : PS} (h : OkP n P) : OkP n P.sync := by
  have hf := filesOk_sync (fs := P.files) h.wait
  exact ⟨hf.2.1 h.names, by show (syncF _ _).length ≤ n; rw [hf.1]; exact h.flen, Nat.zero_le _, h.count, h.made, h.most, h.fuse, hf.2.2 h.small, fun p hp => by cases hp⟩
theorem OkP.crash {n : Nat} {P : PS} (h : OkP n P) (l : List Int) : OkP n (P.crash l) := by
  have hf := (filesOk_crash (l := P.wait.zip l) (fs := P.files) (fun q hq => h.wait _ (List.of_mem_zip hq).1)).trans filesOk_seen
  exact ⟨hf.2.1 h.names, by show (List.map _ _).length ≤ n; rw [hf.1]; exact h.flen, Nat.zero_le _, h.count, h.made, h.most, by show (-1 : Int) ≤ _; omega, hf.2.2 h.small, fun p hp => by cases hp⟩
def PS.arm (P : PS) (n : Int) : Int × PS := if P.off then (14, P) else if n < 0 then (1, P) else (0, { P with fuse := n })
theorem OkP.arm {n : Nat} {P : PS} (h : OkP n P) (k : Int) (hk : k ≤ 9223372036854775807) : OkP n (P.arm k).2 := by
  unfold PS.arm
  split
  · exact h
  · split
    · exact h
    · exact ⟨h.names, h.flen, h.wlen, h.count, h.made, h.most, hk, h.small, h.wait⟩
theorem filesOk_modify {l : List PF} {i a : Nat} {t : ByteArray} (h : a + t.size ≤ 2097152) : FilesOk l (l.modify i fun f => { f with seen := layB f.seen a t.data.toList }) := by
  refine ⟨by simp, fun hp => ?_, fun hs f hf => ?_⟩
  · rw [List.pairwise_iff_getElem] at hp ⊢
    intro x y hx hy hxy
    rw [List.getElem_modify, List.getElem_modify]
    have h1 : ∀ (c : Prop) [Decidable c] (f : PF), (if c then ({ f with seen := layB f.seen a t.data.toList } : PF) else f).name = f.name := fun c _ f => by split <;> rfl
    rw [h1, h1]
    exact hp x y (by simpa using hx) (by simpa using hy) hxy
  · obtain ⟨k, hk, rfl⟩ := List.mem_iff_getElem.1 hf
    rw [List.getElem_modify]
    have := hs (l[k]'(by simpa using hk)) (List.getElem_mem _)
    split
    · refine ⟨?_, this.2⟩
      show (layB _ _ _).length ≤ _
      have hl : t.data.toList.length = t.size := by rw [Array.length_toList]; rfl
      rw [layB_length, hl]
      omega
    · exact this
theorem OkP.step {n : Nat} {P : PS} (h : OkP n P) (i a : Nat) (t : ByteArray) (ha : a + t.size ≤ 2097152) : OkP (n + 1) (wrStep P i a t) := by
  have hf := filesOk_modify (l := P.files) (i := i) ha
  have h1 := h.count
  have h2 := h.made
  have h3 := h.fuse
  refine ⟨hf.2.1 h.names, ?_, ?_, ?_, ?_, h.most, ?_, hf.2.2 h.small, ?_⟩
  · have := h.flen
    show (List.modify _ _ _).length ≤ _
    rw [hf.1]; omega
  · have := h.wlen
    show (P.wait ++ [_]).length ≤ _
    simp; omega
  · show 0 ≤ P.count + 1 ∧ P.count + 1 ≤ _
    omega
  · show 0 ≤ P.made ∧ P.made ≤ _
    omega
  · show (if 0 < P.fuse then P.fuse - 1 else P.fuse) ≤ _
    split <;> omega
  · intro p hp
    rcases List.mem_append.1 hp with hp | hp
    · exact h.wait p hp
    · rw [List.mem_singleton.1 hp]
      refine ⟨by show (0 : Int) ≤ ((a / 64 : Nat) : Int); omega, by show (0 : Int) ≤ ((a % 64 : Nat) : Int); omega, ?_⟩
      show ((a / 64 : Nat) : Int) * 64 + ((a % 64 : Nat) : Int) + (t.size : Nat) ≤ 2097152
      omega
theorem OkP.go {m : Nat} : ∀ {n : Nat} {P : PS} {i a : Nat} {t : ByteArray}, OkP n P → a + t.size ≤ 2097152 → OkP (n + t.size) (wrGo m P i a t).2 := by
  induction m with
  | zero => intro n P i a t h _; exact h.mono (by omega)
  | succ m ih =>
    intro n P i a t h ha
    by_cases h0 : t.size = 0
    · rw [wrGo_done h0]; exact h.mono (by omega)
    · unfold wrGo
      rw [if_neg h0]
      by_cases hf : P.fuse = 0
      · rw [if_pos hf]
        have h' := h.mono (show n ≤ n + t.size by omega)
        exact ⟨h'.names, h'.flen, h'.wlen, h'.count, h'.made, h'.most, h'.fuse, h'.small, h'.wait⟩
      · rw [if_neg hf]
        obtain ⟨r1, r2, r3⟩ := room_pos (a := a) (t := t) (by omega)
        have hes : (t.extract 0 (room a t)).size = room a t := by rw [ByteArray.size_extract]; omega
        have hs := h.step i a (t.extract 0 (room a t)) (by rw [hes]; omega)
        have := ih (i := i) (a := a + room a t) (t := t.extract (room a t) t.size) hs (by rw [rest_size]; omega)
        rw [rest_size] at this
        exact this.mono (by omega)
theorem OkP.write {n : Nat} {P : PS} (h : OkP n P) (s : ByteArray) (a : Int) (t : ByteArray) : OkP (n + t.size) (P.write s a t).2 := by
  unfold PS.write
  split
  · exact h.mono (by omega)
  · split
    · exact h.mono (by omega)
    · split
      · exact h.mono (by omega)
      · split
        · exact h.mono (by omega)
        · exact h.go (by omega)
theorem OkP.append {n : Nat} {P : PS} (h : OkP n P) (s t : ByteArray) : OkP (n + t.size) (P.append s t).2 := by
  unfold PS.append
  split
  · exact h.write s _ t
  · exact h.mono (by omega)

def lowerP (l : List PF) (s : ByteArray) : Nat := l.countP fun f => decide (Lib.compareBytes f.name.data.toList s.data.toList < 0)
theorem lowerP_pl (l : List DFile) (s : ByteArray) : lowerP (l.map DFile.pl) s = lower l s := by
  unfold lowerP lower
  rw [List.countP_map]
  rfl
def PS.create (P : PS) (s : ByteArray) : Int × PS :=
  if P.off then (14, P) else if okName s = false then (1, P) else if (findI P.files s).isSome then (9, P) else
    (0, { P with files := P.files.take (lowerP P.files s) ++ ⟨P.made, s, [], []⟩ :: P.files.drop (lowerP P.files s), made := P.made + 1 })
theorem lowerP_zero {l : List PF} {s : ByteArray} (h : ∀ f ∈ l, ¬ Lib.compareBytes f.name.data.toList s.data.toList < 0) : lowerP l s = 0 := by
  unfold lowerP
  rw [List.countP_eq_zero]
  intro f hf
  simpa using h f hf
theorem insert_names {s : ByteArray} {new : PF} (hn : new.name = s) : ∀ (l : List PF), (l.Pairwise fun f h => Lib.compareBytes f.name.data.toList h.name.data.toList < 0) → (∀ f ∈ l, f.name ≠ s) → (l.take (lowerP l s) ++ new :: l.drop (lowerP l s)).Pairwise fun f h => Lib.compareBytes f.name.data.toList h.name.data.toList < 0
  | [], _, _ => by simp
  | f :: r, hs, hno => by
    rw [List.pairwise_cons] at hs
    by_cases hc : Lib.compareBytes f.name.data.toList s.data.toList < 0
    · have e : lowerP (f :: r) s = lowerP r s + 1 := by
        unfold lowerP
        rw [List.countP_cons_of_pos (by simpa using hc)]
      rw [e]
      show (f :: (r.take _ ++ new :: r.drop _)).Pairwise _
      rw [List.pairwise_cons]
      refine ⟨fun x hx => ?_, insert_names hn r hs.2 (fun g hg => hno g (List.mem_cons_of_mem _ hg))⟩
      rcases List.mem_append.1 hx with h1 | h1
      · exact hs.1 x (List.mem_of_mem_take h1)
      · rcases List.mem_cons.1 h1 with rfl | h1
        · rw [hn]; exact hc
        · exact hs.1 x (List.mem_of_mem_drop h1)
    · have hall : ∀ g ∈ f :: r, ¬ Lib.compareBytes g.name.data.toList s.data.toList < 0 := by
        intro g hg
        rcases List.mem_cons.1 hg with rfl | hg
        · exact hc
        · intro h; exact hc (cmp_trans (hs.1 g hg) h)
      rw [lowerP_zero hall]
      show (new :: f :: r).Pairwise _
      rw [List.pairwise_cons, List.pairwise_cons]
      have hsf : Lib.compareBytes new.name.data.toList f.name.data.toList < 0 := by
        rw [hn, cmp_anti]
        have h0 : Lib.compareBytes f.name.data.toList s.data.toList ≠ 0 := fun h => hno f (List.mem_cons_self ..) (name_eq.1 (cmp_zero h))
        omega
      refine ⟨fun x hx => ?_, hs⟩
      rcases List.mem_cons.1 hx with rfl | hx
      · exact hsf
      · exact cmp_trans hsf (hs.1 x hx)
theorem findI_isNone {l : List PF} {s : ByteArray} (h : (findI l s).isSome = false) : ∀ f ∈ l, f.name ≠ s := by
  intro f hf
  have h2 : findI l s = none := by
    cases hq : findI l s with
    | none => rfl
    | some i => rw [hq] at h; cases h
  unfold findI at h2
  have := List.findIdx?_eq_none_iff.1 h2 f hf
  simpa using this
theorem OkP.create {n : Nat} {P : PS} (h : OkP n P) (s : ByteArray) : OkP (n + 1) (P.create s).2 := by
  unfold PS.create
  split
  · exact h.mono (by omega)
  · split
    · exact h.mono (by omega)
    · split
      · exact h.mono (by omega)
      · next hf =>
        have h' := h.mono (show n ≤ n + 1 by omega)
        have hm := h.made
        refine ⟨insert_names (new := ⟨P.made, s, [], []⟩) rfl P.files h.names (findI_isNone (by simpa using hf)), ?_, h'.wlen, h'.count, ?_, h.most, h.fuse, ?_, h.wait⟩
        · have h1 := h.flen
          have h2 : lowerP P.files s ≤ P.files.length := List.countP_le_length
          simp only [List.length_append, List.length_take, List.length_cons, List.length_drop]
          omega
        · show 0 ≤ P.made + 1 ∧ P.made + 1 ≤ _
          omega
        · intro f hf2
          rcases List.mem_append.1 hf2 with h1 | h1
          · exact h.small f (List.mem_of_mem_take h1)
          · rcases List.mem_cons.1 h1 with rfl | h1
            · exact ⟨Nat.zero_le _, Nat.zero_le _⟩
            · exact h.small f (List.mem_of_mem_drop h1)
theorem isAt_isSome {l : List DFile} (ho : Ordered l) (s : ByteArray) : isAt l s = (findI (l.map DFile.pl) s).isSome := by
  rcases isAt_find ho s with ⟨h1, h2⟩ | ⟨hx, h1, hn, h2⟩
  · rw [h1, findI_none h2]; rfl
  · rw [h1, findI_at ho s hx hn]; rfl
theorem created_pl (S : DSt) (v : Value) (g : Nat) (s : ByteArray) : (created S v (newFile g S.made s)).pl = { S.pl with files := S.pl.files.take (lowerP S.pl.files s) ++ ⟨S.made, s, [], []⟩ :: S.pl.files.drop (lowerP S.pl.files s), made := S.made + 1 } := by
  unfold created
  show (PS.mk ((S.files.take (lower S.files s) ++ newFile g S.made s :: S.files.drop (lower S.files s)).map DFile.pl) _ _ _ _ _ _) = _
  rw [pl_files, lowerP_pl, List.map_append, List.map_cons, List.map_take, List.map_drop]
  rfl
theorem create_any (b n : Nat) (S : DSt) (s : ByteArray) (w : World) (h : DiskAt w b S) (hok : OkP n S.pl) (hn : n ≤ 1000000000) :
    Calls Tryz.prog 142 #[.pointer (some ⟨b, 0, none⟩), .string s] w fun e w' => e = .returned (.int .i64 (S.pl.create s).1) ∧ ∃ S', Dev b S w S' w' ∧ S'.pl = (S.pl.create s).2 := by
  obtain ⟨hor, hl, _⟩ := hok.ready hn
  have hmd : 0 ≤ S.made ∧ S.made ≤ 1000000000 := by have := hok.made; have h1 : S.pl.made = S.made := rfl; omega
  cases ho : S.off with
  | true =>
    have e0 : S.pl.create s = (14, S.pl) := if_pos ho
    rw [e0]
    refine (create_off b S s w h ho).mono ?_
    rintro e w' ⟨rfl, rfl⟩
    exact ⟨rfl, S, Dev.refl h, rfl⟩
  | false =>
    have hno : ¬ (S.pl.off = true) := by show ¬ (S.off = true); rw [ho]; decide
    cases hnm : okName s with
    | false =>
      have e0 : S.pl.create s = (1, S.pl) := by unfold PS.create; rw [if_neg hno, if_pos hnm]
      rw [e0]
      refine (create_bad b S s w h ho hnm).mono ?_
      rintro e w' ⟨rfl, hb⟩
      exact ⟨rfl, S, (Dev.refl h).below hb, rfl⟩
    | true =>
      cases hat : isAt S.files s with
      | true =>
        have e0 : S.pl.create s = (9, S.pl) := by
          unfold PS.create; rw [if_neg hno, if_neg (by rw [hnm]; decide), pl_files, ← isAt_isSome hor, if_pos hat]
        rw [e0]
        refine (create_dup b S s w h hor hl ho hnm hat).mono ?_
        rintro e w' ⟨rfl, hb⟩
        exact ⟨rfl, S, (Dev.refl h).below hb, rfl⟩
      | false =>
        have e0 : S.pl.create s = (0, { S.pl with files := S.pl.files.take (lowerP S.pl.files s) ++ ⟨S.made, s, [], []⟩ :: S.pl.files.drop (lowerP S.pl.files s), made := S.made + 1 }) := by
          unfold PS.create; rw [if_neg hno, if_neg (by rw [hnm]; decide), pl_files, ← isAt_isSome hor, if_neg (by rw [hat]; decide)]
          rfl
        rw [e0]
        refine (create_ok b S s w h hor hl ho hnm hat hmd).mono ?_
        rintro e w' ⟨v, g, rfl, hD, hg, hT, hv⟩
        refine ⟨rfl, _, ⟨hD, hT.mono (fun k _ hk => ?_), fun k hk => ?_⟩, created_pl S v g s⟩
        · rcases hk with hk | hk
          · exact Or.inl hk
          · exact Or.inr (Or.inl hk)
        · rcases hk with hk | hk | hk | ⟨f, hf, hk⟩
          · exact Or.inl (Or.inl hk)
          · rcases hv k hk with h1 | h1
            · exact Or.inl (Or.inr (Or.inl h1))
            · exact Or.inr h1
          · exact Or.inl (Or.inr (Or.inr (Or.inl hk)))
          · have hf2 : f ∈ S.files.take (lower S.files s) ++ newFile g S.made s :: S.files.drop (lower S.files s) := hf
            rcases List.mem_append.1 hf2 with h1 | h1
            · exact Or.inl (Or.inr (Or.inr (Or.inr ⟨f, List.mem_of_mem_take h1, hk⟩)))
            · rcases List.mem_cons.1 h1 with rfl | h1
              · rcases hk with hk | hk | hk
                · right; have h5 : g = k := hk; omega
                · cases hk
                · cases hk
              · exact Or.inl (Or.inr (Or.inr (Or.inr ⟨f, List.mem_of_mem_drop h1, hk⟩)))
end Go.Proofs.YtaeklleogniimaaGreatDoor
