/- What was synced stays: plain laws. No condition. -/
import Derived.Test.YtlmodbaeoheiiaaDiskFuse
namespace Go.Proofs.Ytlmodbaeoheiiaa
open Go.RowKit
set_option linter.unusedVariables false

def kept : ByteArray := ⟨#[107, 101, 112, 116]⟩
structure Keep (t : List UInt8) (P : PS) : Prop where
  is : ∃ f ∈ P.files, f.name = kept
  all : ∀ g ∈ P.files, g.name = kept → t <+: g.last ∧ t.length ≤ g.seen.length
  wait : ∀ p ∈ P.wait, t.length ≤ spot p
theorem layB_prefix {t l u : List UInt8} {a : Nat} (h : t <+: l) (ha : t.length ≤ a) : t <+: layB l a u := by
  obtain ⟨r, rfl⟩ := h
  unfold layB
  refine ⟨((r ++ List.replicate (a - (t ++ r).length) 0).take (a - t.length)) ++ u ++ (t ++ r).drop (a + u.length), ?_⟩
  have e : (t ++ r ++ List.replicate (a - (t ++ r).length) 0).take a = t ++ (r ++ List.replicate (a - (t ++ r).length) 0).take (a - t.length) := by
    rw [List.append_assoc, List.take_append, List.take_of_length_le ha]
  rw [e]
  simp only [List.append_assoc]
theorem keep_lastF {t : List UInt8} {p : DPiece} {n : Nat} {f : PF} (hp : t.length ≤ spot p) (h : t <+: f.last) : t <+: (lastF p n f).last := by
  unfold lastF
  split
  · exact layB_prefix h hp
  · exact h
theorem keep_crashF {t : List UInt8} : ∀ (l : List (DPiece × Int)) (fs : List PF), (∀ q ∈ l, t.length ≤ spot q.1) → (∀ g ∈ fs, g.name = kept → t <+: g.last) → ∀ g ∈ crashF l fs, g.name = kept → t <+: g.last
  | [], fs, _, h => h
  | q :: r, fs, hq, h => by
    refine keep_crashF r (fs.map (lastF q.1 (fateN q.1 q.2))) (fun x hx => hq x (List.mem_cons_of_mem _ hx)) (fun g hg hn => ?_)
    obtain ⟨f, hf, rfl⟩ := List.mem_map.1 hg
    rw [lastF_name] at hn
    exact keep_lastF (hq q (List.mem_cons_self ..)) (h f hf hn)
theorem names_crashF : ∀ (l : List (DPiece × Int)) (fs : List PF), (∃ f ∈ fs, f.name = kept) → ∃ f ∈ crashF l fs, f.name = kept
  | [], fs, h => h
  | q :: r, fs, ⟨f, hf, hn⟩ => names_crashF r _ ⟨lastF q.1 (fateN q.1 q.2) f, List.mem_map_of_mem hf, by rw [lastF_name]; exact hn⟩
theorem findI_some {l : List PF} {s : ByteArray} (h : ∃ f ∈ l, f.name = s) : ∃ i, ∃ hi : i < l.length, findI l s = some i ∧ l[i].name = s := by
  cases hf : findI l s with
  | none =>
    obtain ⟨f, hf1, hf2⟩ := h
    exact absurd hf2 (findI_isNone (by rw [hf]; rfl) f hf1)
  | some i =>
    unfold findI at hf
    obtain ⟨hi, h1, _⟩ := List.findIdx?_eq_some_iff_getElem.1 hf
    exact ⟨i, hi, rfl, by simpa using h1⟩
theorem Keep.read {t : List UInt8} {P : PS} (h : Keep t P) (l : List Int) : (P.crash l).read kept 0 ((t.length : Nat) : Int) = (textOf t, 0) := by
  have h1 := names_crashF (P.wait.zip l) P.files h.is
  have h2 := keep_crashF (P.wait.zip l) P.files (fun q hq => h.wait _ (List.of_mem_zip hq).1) (fun g hg hn => (h.all g hg hn).1)
  obtain ⟨f, hf, hn⟩ := h1
  obtain ⟨i, hi, h3, h4⟩ := findI_some (l := (P.crash l).files) (s := kept) ⟨seenF f, List.mem_map_of_mem hf, hn⟩
  unfold PS.read
  rw [if_neg (show ¬ ((P.crash l).off = true) by show ¬ (false = true); decide), h3]
  show (if _ then _ else _ : ByteArray × Int) = _
  rw [if_neg (by omega)]
  have hs : seenAt (P.crash l) i = (P.crash l).files[i].seen := by
    unfold seenAt
    rw [List.getElem?_eq_getElem hi]
    rfl
  have hp : t <+: (P.crash l).files[i].seen := by
    obtain ⟨g, hg, he⟩ := List.mem_map.1 (show (P.crash l).files[i] ∈ (crashF (P.wait.zip l) P.files).map seenF from List.getElem_mem hi)
    rw [← he] at h4 ⊢
    exact h2 g hg h4
  rw [hs]
  obtain ⟨r, hr⟩ := hp
  rw [← hr]
  show (textOf (((t ++ r).drop 0).take ((t.length : Nat) : Int).toNat), (0 : Int)) = _
  rw [List.drop_zero, Int.toNat_natCast, List.take_left']
  rfl
theorem Keep.create {t : List UInt8} {P : PS} (h : Keep t P) (s : ByteArray) : Keep t (P.create s).2 := by
  unfold PS.create
  split
  · exact h
  · split
    · exact h
    · split
      · exact h
      · next hf =>
        have hns : s ≠ kept := by
          intro e
          obtain ⟨i, hi, h1, _⟩ := findI_some h.is
          rw [e, h1] at hf
          exact hf rfl
        refine ⟨?_, ?_, h.wait⟩
        · obtain ⟨f, hf1, hf2⟩ := h.is
          refine ⟨f, ?_, hf2⟩
          show f ∈ P.files.take _ ++ _ :: P.files.drop _
          rw [← List.take_append_drop (lowerP P.files s) P.files] at hf1
          rcases List.mem_append.1 hf1 with h1 | h1
          · exact List.mem_append.2 (Or.inl h1)
          · exact List.mem_append.2 (Or.inr (List.mem_cons_of_mem _ h1))
        · intro g hg hn
          rcases List.mem_append.1 hg with h1 | h1
          · exact h.all g (List.mem_of_mem_take h1) hn
          · rcases List.mem_cons.1 h1 with rfl | h1
            · exact absurd hn hns
            · exact h.all g (List.mem_of_mem_drop h1) hn
theorem Keep.arm {t : List UInt8} {P : PS} (h : Keep t P) (k : Int) : Keep t (P.arm k).2 := by
  unfold PS.arm
  split
  · exact h
  · split
    · exact h
    · exact ⟨h.is, h.all, h.wait⟩
theorem Keep.step {t : List UInt8} {P : PS} (h : Keep t P) (i a : Nat) (u : ByteArray) (ha : t.length ≤ a) : Keep t (wrStep P i a u) := by
  refine ⟨?_, ?_, ?_⟩
  · obtain ⟨f, hf1, hf2⟩ := h.is
    obtain ⟨k, hk, rfl⟩ := List.mem_iff_getElem.1 hf1
    refine ⟨(P.files.modify i fun f => { f with seen := layB f.seen a u.data.toList })[k]'(by simpa using hk), List.getElem_mem _, ?_⟩
    rw [List.getElem_modify]
    split <;> exact hf2
  · intro g hg hn
    obtain ⟨k, hk, rfl⟩ := List.mem_iff_getElem.1 (show g ∈ P.files.modify i fun f => { f with seen := layB f.seen a u.data.toList } from hg)
    rw [List.getElem_modify] at hn ⊢
    have hk' : k < P.files.length := by simpa using hk
    split at hn
    · next he =>
      rw [if_pos he]
      have := h.all _ (List.getElem_mem hk') hn
      refine ⟨this.1, ?_⟩
      show t.length ≤ (layB _ _ _).length
      rw [layB_length]; omega
    · next he =>
      rw [if_neg he]
      exact h.all _ (List.getElem_mem hk') hn
  · intro p hp
    rcases List.mem_append.1 hp with hp | hp
    · exact h.wait p hp
    · rw [List.mem_singleton.1 hp]
      unfold spot
      show t.length ≤ (((a / 64 : Nat) : Int) * 64 + ((a % 64 : Nat) : Int)).toNat
      omega
theorem Keep.go {t : List UInt8} : ∀ (m : Nat) (P : PS) (i a : Nat) (u : ByteArray), Keep t P → t.length ≤ a → Keep t (wrGo m P i a u).2 := by
  intro m
  induction m with
  | zero => intro P i a u h _; exact h
  | succ m ih =>
    intro P i a u h ha
    unfold wrGo
    split
    · exact h
    · split
      · exact ⟨h.is, h.all, h.wait⟩
      · exact ih _ _ _ _ (h.step i a _ ha) (by omega)
theorem Keep.append {t : List UInt8} {P : PS} (h : Keep t P) (u : ByteArray) : Keep t (P.append kept u).2 := by
  unfold PS.append
  split
  · next hs =>
    cases ho : P.off with
    | true => rw [size_off kept ho] at hs; cases hs
    | false =>
      obtain ⟨i, hi, h1, h2⟩ := findI_some h.is
      have hsz : P.size kept = (((seenI P i : Nat) : Int), 0) := size_some ho h1
      have hse : t.length ≤ seenI P i := by
        unfold seenI
        rw [List.getElem?_eq_getElem hi]
        exact (h.all _ (List.getElem_mem hi) h2).2
      rw [hsz]
      unfold PS.write
      split
      · exact h
      · rw [h1]
        show Keep t (if _ then _ else _ : Int × PS).2
        split
        · exact h
        · split
          · exact h
          · exact Keep.go _ _ _ _ _ h (by show t.length ≤ ((seenI P i : Nat) : Int).toNat; omega)
  · exact h
/-- a whole write synced -/
theorem syncF_cuts (nm : ByteArray) : ∀ (m a : Nat) (t : ByteArray) (W s : List UInt8), t.size ≤ m → 0 < t.size → syncF (cutsP 0 m a t) [⟨0, nm, W, s⟩] = [⟨0, nm, layB W a t.data.toList, s⟩] := by
  intro m
  induction m with
  | zero => intro a t W s h1 h2; omega
  | succ m ih =>
    intro a t W s hm ht
    obtain ⟨r1, r2, r3⟩ := room_pos (a := a) ht
    have hes : (t.extract 0 (room a t)).size = room a t := by rw [ByteArray.size_extract]; omega
    rw [cutsP_cons hm ht]
    have hs : spot ⟨0, ((a / 64 : Nat) : Int), ((a % 64 : Nat) : Int), t.extract 0 (room a t)⟩ = a := by
      unfold spot
      show (((a / 64 : Nat) : Int) * 64 + ((a % 64 : Nat) : Int)).toNat = a
      omega
    have h1 : lastF ⟨0, ((a / 64 : Nat) : Int), ((a % 64 : Nat) : Int), t.extract 0 (room a t)⟩ (t.extract 0 (room a t)).size ⟨0, nm, W, s⟩ = ⟨0, nm, layB W a (t.extract 0 (room a t)).data.toList, s⟩ := by
      unfold lastF
      rw [if_pos ⟨rfl, by rw [hes]; exact r1⟩, hs, hes, List.take_of_length_le (by rw [extract_len, hes]; exact Nat.le_refl _)]
    show syncF (cutsP 0 (m + 1 - 1) _ _) ([(⟨0, nm, W, s⟩ : PF)].map (lastF _ _)) = _
    rw [List.map_cons, List.map_nil, h1]
    by_cases hrest : (t.extract (room a t) t.size).size = 0
    · rw [cutsP_nil hrest]
      have hall : t.extract 0 (room a t) = t := by
        have : room a t = t.size := by rw [rest_size] at hrest; omega
        rw [this]
        exact ByteArray.extract_zero_size
      rw [hall]
      rfl
    · have h5 : (t.extract 0 (room a t)).data.toList.length = room a t := by rw [extract_len, hes]
      have h6 := layB_two W a (t.extract 0 (room a t)).data.toList (t.extract (room a t) t.size).data.toList (by rw [extract_len]; omega) (by rw [h5]; exact r1)
      rw [h5, toList_split t _ r2] at h6
      show syncF (cutsP 0 m _ _) _ = _
      rw [ih (a + room a t) (t.extract (room a t) t.size) _ s (by rw [rest_size]; omega) (by omega), h6]
theorem layB_start (t : List UInt8) : layB [] 0 t = t := by unfold layB; simp
def keptP (wait : List DPiece) (last seen : List UInt8) (fuse count : Int) : PS := ⟨[⟨0, kept, last, seen⟩], wait, 200, fuse, false, count, 1⟩
theorem createK : (newP 200).create kept = (0, keptP [] [] [] (-1) 0) := by kernel_rfl
theorem findK (f : PF) (h : f.name = kept) : findI [f] kept = some 0 := by
  unfold findI
  rw [List.findIdx?_cons, h]
  simp
/-- what stands behind the first write and its sync -/
theorem keep_start (t : ByteArray) (ht : t.size ≤ 700) : ∃ P, (keptP [] [] [] (-1) 0).write kept 0 t = (0, P) ∧ P.off = false ∧ Keep t.data.toList P.sync := by
  by_cases h0 : t.size = 0
  · refine ⟨keptP [] [] [] (-1) 0, ?_, rfl, ?_⟩
    · show PS.write _ kept ((0 : Nat) : Int) t = _
      rw [write_eq (P := keptP [] [] [] (-1) 0) (i := 0) (a := 0) rfl (findK _ rfl) (by omega), if_neg (by omega)]
      exact wrGo_done h0
    · have hn : t.data.toList = [] := List.eq_nil_of_length_eq_zero (by rw [extract_len]; exact h0)
      rw [hn]
      exact ⟨⟨_, List.mem_cons_self .., rfl⟩, fun g hg hk => ⟨List.nil_prefix, Nat.zero_le _⟩, fun p hp => by cases hp⟩
  · have hw := wrGo_all t.size (keptP [] [] [] (-1) 0) 0 0 t (Nat.le_refl _) (by omega) (Or.inl (by show (-1 : Int) < 0; omega))
    have hid : idAt (keptP [] [] [] (-1) 0) 0 = 0 := rfl
    refine ⟨wrDone (keptP [] [] [] (-1) 0) 0 t.size 0 t, ?_, rfl, ?_⟩
    · show PS.write _ kept ((0 : Nat) : Int) t = _
      rw [write_eq (P := keptP [] [] [] (-1) 0) (i := 0) (a := 0) rfl (findK _ rfl) (by omega)]
      have e1 : usedP (keptP [] [] [] (-1) 0).files = 0 := by kernel_rfl
      have e2 : secsI (keptP [] [] [] (-1) 0) 0 = 0 := by kernel_rfl
      rw [e1, e2, if_neg (by
        rintro ⟨_, h⟩
        have h' : (200 : Int) - ((0 : Nat) : Int) < ((secs (0 + t.size) : Nat) : Int) - ((0 : Nat) : Int) := h
        have : secs (0 + t.size) ≤ 100 := by unfold secs; omega
        omega)]
      exact hw
    · have hf : (wrDone (keptP [] [] [] (-1) 0) 0 t.size 0 t).sync.files = [⟨0, kept, t.data.toList, t.data.toList⟩] := by
        unfold PS.sync wrDone
        rw [hid]
        show syncF ([] ++ cutsP 0 t.size 0 t) [⟨0, kept, [], layB [] 0 t.data.toList⟩] = _
        rw [List.nil_append, syncF_cuts kept t.size 0 t [] _ (Nat.le_refl _) (by omega), layB_start]
      refine ⟨⟨_, by rw [hf]; exact List.mem_cons_self .., rfl⟩, fun g hg hk => ?_, fun p hp => by cases hp⟩
      rw [hf] at hg
      rw [List.mem_singleton.1 hg]
      exact ⟨List.prefix_refl _, Nat.le_refl _⟩
end Go.Proofs.Ytlmodbaeoheiiaa
