/- A device on which what waits makes of what lasts what is seen: kept by every call. Plain laws; no program in sight. -/
import Derived.Test.YtkllnihhhgaojaaGreatDoorWalOpen
import Derived.Test.YtkllnihhhgaojaaGreatDoorCuts
namespace Go.Proofs.YtkllnihhhgaojaaGreatDoor
open Go Go.RowKit
set_option linter.unusedVariables false

def pieceL (id : Int) (l : List UInt8) (p : DPiece) : List UInt8 := if id = p.id ∧ 0 < p.text.size then layB l (spot p) p.text.data.toList else l
def lastly (wait : List DPiece) (id : Int) (l : List UInt8) : List UInt8 := wait.foldl (pieceL id) l
theorem lastly_snoc (wait : List DPiece) (p : DPiece) (id : Int) (l : List UInt8) : lastly (wait ++ [p]) id l = pieceL id (lastly wait id l) p := by
  unfold lastly
  rw [List.foldl_append]
  rfl
theorem pieceL_other {id : Int} {l : List UInt8} {p : DPiece} (h : id ≠ p.id) : pieceL id l p = l := if_neg (fun hh => h hh.1)
theorem lastly_other {id : Int} : ∀ {wait : List DPiece} {l : List UInt8}, (∀ p ∈ wait, p.id ≠ id) → lastly wait id l = l
  | [], l, _ => rfl
  | p :: r, l, h => by
    show lastly r id (pieceL id l p) = l
    rw [pieceL_other (fun e => h p (List.mem_cons.2 (Or.inl rfl)) e.symm)]
    exact lastly_other (fun q hq => h q (List.mem_cons.2 (Or.inr hq)))
theorem lastly_filter {id gone : Int} (hne : id ≠ gone) : ∀ (wait : List DPiece) (l : List UInt8), lastly (wait.filter (keepP gone)) id l = lastly wait id l
  | [], l => rfl
  | p :: r, l => by
    by_cases h : p.id = gone
    · have hk : keepP gone p = false := by unfold keepP; simp [h]
      rw [List.filter_cons_of_neg (by rw [hk]; decide), lastly_filter hne r l]
      show _ = lastly r id (pieceL id l p)
      rw [pieceL_other (fun e => hne (e.trans h))]
    · have hk : keepP gone p = true := by unfold keepP; simp [h]
      rw [List.filter_cons_of_pos hk]
      exact lastly_filter hne r (pieceL id l p)
theorem pieceL_len (id : Int) (l : List UInt8) (p : DPiece) : l.length ≤ (pieceL id l p).length := by
  unfold pieceL
  split
  · rw [layB_length]; omega
  · exact Nat.le_refl _
theorem lastly_len (id : Int) : ∀ (wait : List DPiece) (l : List UInt8), l.length ≤ (lastly wait id l).length
  | [], l => Nat.le_refl _
  | p :: r, l => Nat.le_trans (pieceL_len id l p) (lastly_len id r (pieceL id l p))
theorem lastF_whole (p : DPiece) (f : PF) : lastF p p.text.size f = { f with last := pieceL f.id f.last p } := by
  unfold lastF pieceL
  split
  · rw [List.take_of_length_le (by rw [extract_len]; exact Nat.le_refl _)]
  · rfl
theorem syncF_map : ∀ (wait : List DPiece) (fs : List PF), syncF wait fs = fs.map fun f => { f with last := lastly wait f.id f.last }
  | [], fs => by
    unfold syncF lastly
    simp
  | p :: r, fs => by
    show syncF r (fs.map (lastF p p.text.size)) = _
    rw [syncF_map r, List.map_map]
    apply List.map_congr_left
    intro f _
    show { lastF p p.text.size f with last := lastly r (lastF p p.text.size f).id (lastF p p.text.size f).last } = _
    rw [lastF_whole]
    rfl
structure Snd (P : PS) : Prop where
  ids : P.files.Pairwise fun f g => f.id ≠ g.id
  idm : ∀ f ∈ P.files, f.id < P.made
  widm : ∀ p ∈ P.wait, p.id < P.made
  law : ∀ f ∈ P.files, lastly P.wait f.id f.last = f.seen
theorem Snd.len {P : PS} (h : Snd P) {f : PF} (hf : f ∈ P.files) : f.last.length ≤ f.seen.length := by
  rw [← h.law f hf]
  exact lastly_len _ _ _
theorem Snd.newP (n : Int) : Snd (newP n) := ⟨List.Pairwise.nil, fun f hf => (by cases hf), fun p hp => (by cases hp), fun f hf => (by cases hf)⟩
theorem Snd.sync_eq {P : PS} (h : Snd P) : P.sync = { P with files := P.files.map fun f => { f with last := f.seen }, wait := [] } := by
  unfold PS.sync
  rw [syncF_map]
  congr 1
  apply List.map_congr_left
  intro f hf
  rw [h.law f hf]
theorem Snd.sync {P : PS} (h : Snd P) : Snd P.sync := by
  rw [h.sync_eq]
  refine ⟨?_, ?_, fun p hp => (by cases hp), ?_⟩
  · show (P.files.map _).Pairwise _
    rw [List.pairwise_map]
    exact h.ids
  · intro f hf
    obtain ⟨g, hg, rfl⟩ := List.mem_map.1 hf
    exact h.idm g hg
  · intro f hf
    obtain ⟨g, hg, rfl⟩ := List.mem_map.1 hf
    rfl
theorem Snd.syncR {P : PS} (h : Snd P) : Snd P.syncR.2 := by
  unfold PS.syncR
  split
  · exact h
  · exact h.sync
theorem lastF_rest (p : DPiece) (n : Nat) (f : PF) : (lastF p n f).id = f.id ∧ (lastF p n f).name = f.name ∧ (lastF p n f).seen = f.seen := by
  unfold lastF
  split <;> exact ⟨rfl, rfl, rfl⟩
theorem crashF_map : ∀ (l : List (DPiece × Int)) (fs : List PF), ∃ F : PF → List UInt8, crashF l fs = fs.map fun f => { f with last := F f }
  | [], fs => ⟨fun f => f.last, by unfold crashF; simp⟩
  | q :: r, fs => by
    obtain ⟨F, hF⟩ := crashF_map r (fs.map (lastF q.1 (fateN q.1 q.2)))
    refine ⟨fun f => F (lastF q.1 (fateN q.1 q.2) f), ?_⟩
    show crashF r (fs.map (lastF q.1 (fateN q.1 q.2))) = _
    rw [hF, List.map_map]
    apply List.map_congr_left
    intro f _
    obtain ⟨h1, h2, h3⟩ := lastF_rest q.1 (fateN q.1 q.2) f
    show PF.mk (lastF q.1 (fateN q.1 q.2) f).id (lastF q.1 (fateN q.1 q.2) f).name (F (lastF q.1 (fateN q.1 q.2) f)) (lastF q.1 (fateN q.1 q.2) f).seen = PF.mk f.id f.name (F (lastF q.1 (fateN q.1 q.2) f)) f.seen
    rw [h1, h2, h3]
theorem Snd.crash {P : PS} (h : Snd P) (l : List Int) : Snd (P.crash l) := by
  obtain ⟨F, hF⟩ := crashF_map (P.wait.zip l) P.files
  unfold PS.crash
  rw [hF, List.map_map]
  refine ⟨?_, ?_, fun p hp => (by cases hp), ?_⟩
  · show (P.files.map _).Pairwise _
    rw [List.pairwise_map]
    exact h.ids
  · intro f hf
    obtain ⟨g, hg, rfl⟩ := List.mem_map.1 hf
    exact h.idm g hg
  · intro f hf
    obtain ⟨g, hg, rfl⟩ := List.mem_map.1 hf
    rfl
theorem Snd.create {P : PS} (h : Snd P) (s : ByteArray) : Snd (P.create s).2 := by
  unfold PS.create
  split
  · exact h
  · split
    · exact h
    · split
      · exact h
      · have hmem : ∀ f ∈ P.files.take (lowerP P.files s) ++ ⟨P.made, s, [], []⟩ :: P.files.drop (lowerP P.files s), f ∈ P.files ∨ f = ⟨P.made, s, [], []⟩ := fun f hf => by
          rcases List.mem_append.1 hf with h1 | h1
          · exact Or.inl (List.mem_of_mem_take h1)
          · rcases List.mem_cons.1 h1 with h1 | h1
            · exact Or.inr h1
            · exact Or.inl (List.mem_of_mem_drop h1)
        refine ⟨?_, ?_, ?_, ?_⟩
        · show (P.files.take (lowerP P.files s) ++ ⟨P.made, s, [], []⟩ :: P.files.drop (lowerP P.files s)).Pairwise _
          have h1 := h.ids
          rw [← List.take_append_drop (lowerP P.files s) P.files, List.pairwise_append] at h1
          rw [List.pairwise_append, List.pairwise_cons]
          refine ⟨h1.1, ⟨fun f hf => ?_, h1.2.1⟩, fun f hf g hg => ?_⟩
          · have := h.idm f (List.mem_of_mem_drop hf)
            show P.made ≠ f.id
            omega
          · rcases List.mem_cons.1 hg with rfl | hg
            · have := h.idm f (List.mem_of_mem_take hf)
              show f.id ≠ P.made
              omega
            · exact h1.2.2 f hf g hg
        · intro f hf
          rcases hmem f hf with h1 | rfl
          · have := h.idm f h1
            show f.id < P.made + 1
            omega
          · show P.made < P.made + 1
            omega
        · intro p hp
          have := h.widm p hp
          show p.id < P.made + 1
          omega
        · intro f hf
          rcases hmem f hf with h1 | rfl
          · exact h.law f h1
          · exact lastly_other (fun p hp => by
              have := h.widm p hp
              show p.id ≠ P.made
              omega)
theorem findI_lt {l : List PF} {s : ByteArray} {i : Nat} (h : findI l s = some i) : ∃ hi : i < l.length, l[i].name = s := by
  unfold findI at h
  rw [List.findIdx?_eq_some_iff_getElem] at h
  obtain ⟨h1, h2, _⟩ := h
  exact ⟨h1, of_decide_eq_true h2⟩
theorem idAt_get {P : PS} {i : Nat} (hi : i < P.files.length) : idAt P i = P.files[i].id := by
  unfold idAt
  rw [List.getElem?_eq_getElem hi]
  rfl
theorem pair_ne {l : List PF} (h : l.Pairwise fun f g => f.id ≠ g.id) {i j : Nat} (hi : i < l.length) (hj : j < l.length) (hij : i ≠ j) : l[i].id ≠ l[j].id := by
  rcases Nat.lt_or_gt_of_ne hij with h1 | h1
  · exact List.pairwise_iff_getElem.1 h i j hi hj h1
  · exact (List.pairwise_iff_getElem.1 h j i hj hi h1).symm
theorem Snd.remove {P : PS} (h : Snd P) (s : ByteArray) : Snd (P.remove s).2 := by
  unfold PS.remove
  split
  · exact h
  · split
    · exact h
    · rename_i i hi
      obtain ⟨hl, _⟩ := findI_lt hi
      rw [idAt_get hl]
      have hsub := List.eraseIdx_sublist P.files i
      refine ⟨h.ids.sublist hsub, fun f hf => h.idm f (hsub.subset hf), fun p hp => h.widm p (List.mem_filter.1 hp).1, fun f hf => ?_⟩
      have hne : f.id ≠ P.files[i].id := by
        obtain ⟨j, hj, hji, rfl⟩ : ∃ j, ∃ hj : j < P.files.length, j ≠ i ∧ P.files[j] = f := by
          rw [List.mem_eraseIdx_iff_getElem] at hf
          obtain ⟨j, hj, hji, e⟩ := hf
          exact ⟨j, hj, hji, e⟩
        exact pair_ne h.ids hj hl hji
      show lastly (P.wait.filter (keepP P.files[i].id)) f.id f.last = f.seen
      rw [lastly_filter hne]
      exact h.law f (hsub.subset hf)
theorem spot_piece (id : Int) (a : Nat) (t : ByteArray) : spot ⟨id, ((a / 64 : Nat) : Int), ((a % 64 : Nat) : Int), t⟩ = a := by
  unfold spot
  show ((((a / 64 : Nat) : Int) * 64 + ((a % 64 : Nat) : Int))).toNat = a
  omega
theorem mem_modify {l : List PF} {i : Nat} {F : PF → PF} {f : PF} (h : f ∈ l.modify i F) : (∃ j, ∃ hj : j < l.length, j ≠ i ∧ f = l[j]) ∨ (∃ hi : i < l.length, f = F l[i]) := by
  obtain ⟨j, hj, rfl⟩ := List.mem_iff_getElem.1 h
  rw [List.length_modify] at hj
  rw [List.getElem_modify]
  by_cases e : i = j
  · subst e
    rw [if_pos rfl]
    exact Or.inr ⟨hj, rfl⟩
  · rw [if_neg e]
    exact Or.inl ⟨j, hj, fun h => e h.symm, rfl⟩
theorem Snd.wrStep {P : PS} (h : Snd P) {i a : Nat} {t : ByteArray} (hi : i < P.files.length) (ht : 0 < t.size) : Snd (wrStep P i a t) := by
  have hid := idAt_get hi
  refine ⟨?_, ?_, ?_, ?_⟩
  · have e : (P.files.modify i fun f => { f with seen := layB f.seen a t.data.toList }).map PF.id = P.files.map PF.id := by
      apply List.ext_getElem
      · rw [List.length_map, List.length_map, List.length_modify]
      · intro j h1 h2
        rw [List.getElem_map, List.getElem_map, List.getElem_modify]
        split <;> rfl
    have h1 : (P.files.map PF.id).Pairwise (· ≠ ·) := by rw [List.pairwise_map]; exact h.ids
    rw [← e, List.pairwise_map] at h1
    exact h1
  · intro f hf
    rcases mem_modify hf with ⟨j, hj, _, rfl⟩ | ⟨_, rfl⟩
    · exact h.idm _ (List.getElem_mem hj)
    · show P.files[i].id < P.made
      exact h.idm _ (List.getElem_mem hi)
  · intro p hp
    rcases List.mem_append.1 hp with h1 | h1
    · exact h.widm p h1
    · rw [List.mem_singleton.1 h1]
      show idAt P i < P.made
      rw [hid]
      exact h.idm _ (List.getElem_mem hi)
  · intro f hf
    show lastly (P.wait ++ [_]) f.id f.last = f.seen
    rw [lastly_snoc]
    rcases mem_modify hf with ⟨j, hj, hji, rfl⟩ | ⟨_, rfl⟩
    · rw [pieceL_other (by show P.files[j].id ≠ idAt P i; rw [hid]; exact pair_ne h.ids hj hi hji)]
      exact h.law _ (List.getElem_mem hj)
    · show pieceL P.files[i].id (lastly P.wait P.files[i].id P.files[i].last) _ = layB P.files[i].seen a t.data.toList
      rw [h.law _ (List.getElem_mem hi)]
      unfold pieceL
      rw [if_pos ⟨by show P.files[i].id = idAt P i; exact hid.symm, ht⟩, spot_piece]
theorem wrStep_len (P : PS) (i a : Nat) (t : ByteArray) : (wrStep P i a t).files.length = P.files.length := by
  show (P.files.modify i _).length = _
  rw [List.length_modify]
theorem Snd.wrGo : ∀ (m : Nat) {P : PS} {i a : Nat} {t : ByteArray}, Snd P → i < P.files.length → t.size ≤ m → Snd (wrGo m P i a t).2
  | 0, P, i, a, t, h, hi, ht => by rw [wrGo_done (by omega)]; exact h
  | m + 1, P, i, a, t, h, hi, ht => by
    by_cases h0 : t.size = 0
    · rw [wrGo_done h0]; exact h
    · by_cases hf : P.fuse = 0
      · rw [wrGo_off ht (by omega) hf]
        exact ⟨h.ids, h.idm, h.widm, h.law⟩
      · rw [wrGo_step ht (by omega) hf]
        have hr := room_pos (a := a) (t := t) (by omega)
        exact Snd.wrGo m (h.wrStep hi (by rw [ByteArray.size_extract]; omega)) (by rw [wrStep_len]; exact hi) (by rw [rest_size]; omega)
theorem Snd.write {P : PS} (h : Snd P) (s : ByteArray) (a : Int) (t : ByteArray) : Snd (P.write s a t).2 := by
  unfold PS.write
  split
  · exact h
  · split
    · exact h
    · rename_i i hi
      obtain ⟨hl, _⟩ := findI_lt hi
      split
      · exact h
      · split
        · exact h
        · exact Snd.wrGo _ h hl (Nat.le_refl _)
theorem Snd.arm {P : PS} (h : Snd P) (n : Int) : Snd (P.arm n).2 := by
  unfold PS.arm
  split
  · exact h
  · split
    · exact h
    · exact ⟨h.ids, h.idm, h.widm, h.law⟩
theorem layB_end (l t : List UInt8) : layB l l.length t = l ++ t := by
  unfold layB
  rw [Nat.sub_self, List.replicate_zero, List.append_nil, List.take_length, List.drop_eq_nil_of_le (by omega), List.append_nil]
theorem seenAt_get {P : PS} {i : Nat} (hi : i < P.files.length) : seenAt P i = P.files[i].seen := by
  unfold seenAt
  rw [List.getElem?_eq_getElem hi]
  rfl
/-- a write behind a file's end on a device whose power does not fail -/
theorem write_end {P : PS} (h : Snd P) (ho : P.off = false) (hf : P.fuse < 0) {s : ByteArray} {i : Nat} (hi : findI P.files s = some i) {t : ByteArray} (ht : 0 < t.size) (hz : (seenAt P i).length + t.size ≤ 2097152) :
    P.write s (((seenAt P i).length : Nat) : Int) t = if P.most - (usedP P.files : Nat) < ((secs ((seenAt P i).length + t.size) : Nat) : Int) - ((secs (seenAt P i).length : Nat) : Int) then (7, P) else (0, { P with count := P.count + ((cutsP (idAt P i) t.size (seenAt P i).length t).length : Nat), wait := P.wait ++ cutsP (idAt P i) t.size (seenAt P i).length t, files := P.files.modify i fun f => { f with seen := f.seen ++ t.data.toList } }) := by
  obtain ⟨hl, _⟩ := findI_lt hi
  have hs := seenAt_get hl
  have hle := h.len (List.getElem_mem hl)
  rw [write_eq ho hi (by omega)]
  have hsec : secsI P i = secs (seenAt P i).length := by
    unfold secsI
    rw [List.getElem?_eq_getElem hl, hs]
    show secsP P.files[i] = _
    unfold secsP
    rw [Nat.max_eq_left hle]
  rw [hsec]
  by_cases hfull : P.most - (usedP P.files : Nat) < ((secs ((seenAt P i).length + t.size) : Nat) : Int) - ((secs (seenAt P i).length : Nat) : Int)
  · rw [if_pos ⟨ht, hfull⟩, if_pos hfull]
  · rw [if_neg (fun hh => hfull hh.2), if_neg hfull, wrGo_all _ _ _ _ _ (Nat.le_refl _) ht (Or.inl hf)]
    have hfz : (if 0 ≤ P.fuse then P.fuse - ((cutsP (idAt P i) t.size (seenAt P i).length t).length : Nat) else P.fuse) = P.fuse := if_neg (by omega)
    have hfl : (P.files.modify i fun f => { f with seen := layB f.seen (seenAt P i).length t.data.toList }) = P.files.modify i fun f => { f with seen := f.seen ++ t.data.toList } := by
      apply List.ext_getElem
      · rw [List.length_modify, List.length_modify]
      · intro j h1 h2
        rw [List.getElem_modify, List.getElem_modify]
        by_cases e : i = j
        · subst e
          have hly : layB P.files[i].seen (seenAt P i).length t.data.toList = P.files[i].seen ++ t.data.toList := by rw [hs, layB_end]
          rw [if_pos rfl, if_pos rfl]
          show PF.mk _ _ _ (layB P.files[i].seen (seenAt P i).length t.data.toList) = PF.mk _ _ _ _
          rw [hly]
        · rw [if_neg e, if_neg e]
    show ((0 : Int), PS.mk _ _ _ _ _ _ _) = (0, PS.mk _ _ _ _ _ _ _)
    rw [hfz, hfl]
theorem write_none {P : PS} (ho : P.off = false) {s : ByteArray} {i a : Nat} (hi : findI P.files s = some i) {t : ByteArray} (ht : t.size = 0) (hz : a ≤ 2097152) : P.write s (a : Int) t = (0, P) := by
  rw [write_eq ho hi (by omega), if_neg (fun hh => by omega), wrGo_done ht]
end Go.Proofs.YtkllnihhhgaojaaGreatDoor
