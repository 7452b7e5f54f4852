/- A device whose power does not fail, with one file among others: a segment begun on it. Plain laws; no program in sight. -/
import Derived.Test.YtkllnihhhgaojaaGreatDoorWalLaw
import Derived.Test.YtkllnihhhgaojaaGreatDoorWalSpoil
namespace Go.Proofs.YtkllnihhhgaojaaGreatDoor
open Go Go.RowKit
set_option linter.unusedVariables false

/-- what stands in a segment is a chain of records -/
structure Chn (B : List ByteArray) (n : Nat) (recs : List ByteArray) (s : List UInt8) (m : ByteArray) : Prop where
  bytes : s = chainL B (firstM n) recs
  mark : m = lastM B (firstM n) recs
  inB : ChainIn B (firstM n) recs
def Grow (B B' : List ByteArray) : Prop := ∀ n recs s m, Chn B n recs s m → Chn B' n recs s m
theorem Grow.refl (B : List ByteArray) : Grow B B := fun _ _ _ _ h => h
theorem Grow.trans {B B1 B2 : List ByteArray} (h : Grow B B1) (k : Grow B1 B2) : Grow B B2 := fun n recs s m hc => k n recs s m (h n recs s m hc)
theorem Grow.seen (B : List ByteArray) (t : ByteArray) : Grow B (seen B t) := fun n recs s m h => by
  obtain ⟨k1, k2, k3⟩ := chain_seen t recs (firstM n) h.inB
  exact ⟨by rw [k2]; exact h.bytes, by rw [k3]; exact h.mark, k1⟩
theorem Chn.nil (B : List ByteArray) (n : Nat) : Chn B n [] [] (firstM n) := ⟨rfl, rfl, trivial⟩
theorem Chn.snoc {B : List ByteArray} {n : Nat} {recs : List ByteArray} {s : List UInt8} {m t : ByteArray} (h : Chn B n recs s m) (h1 : 1 ≤ t.size) (h2 : t.size ≤ 1048833) :
    Chn (Go.Proofs.YtkllnihhhgaojaaGreatDoor.seen B (m ++ t)) n (recs ++ [t]) (s ++ recL (Go.Proofs.YtkllnihhhgaojaaGreatDoor.seen B (m ++ t)) m t) (markOf (Go.Proofs.YtkllnihhhgaojaaGreatDoor.seen B (m ++ t)) (m ++ t)) := by
  have hg := Grow.seen B (m ++ t) n recs s m h
  obtain ⟨e1, e2, e3⟩ := chain_snoc recs (firstM n) hg.inB (s := t) (by rw [← hg.mark, joinT_append]; exact seen_mem B (m ++ t)) h1 h2
  rw [← hg.mark] at e2 e3
  refine ⟨?_, ?_, e1⟩
  · rw [e2, ← hg.bytes]
  · rw [e3, joinT_append]
/-- how many bytes records take -/
def recsLen (texts : List ByteArray) : Nat := (texts.map fun t => t.size + 37).sum
theorem putAcc_grow (c : UInt8) : ∀ (texts B : List ByteArray) (m : ByteArray) (acc : List UInt8), Grow B (putAcc c texts B m acc).1
  | [], B, m, acc => Grow.refl B
  | s :: r, B, m, acc => by
    by_cases h : 1048832 < s.size
    · rw [putAcc_long h]; exact Grow.refl B
    · rw [putAcc_step h]; exact (Grow.seen B _).trans (putAcc_grow c r _ _ _)
theorem putAcc_chn (c : UInt8) : ∀ (texts B : List ByteArray) (n : Nat) (recs : List ByteArray) (s : List UInt8) (m : ByteArray) (acc : List UInt8), Chn B n recs s m → (∀ t ∈ texts, t.size ≤ 1048832) →
    ∃ B' t m', putAcc c texts B m acc = (B', some (acc ++ t, m')) ∧ Chn B' n (recs ++ texts.map (sig c)) (s ++ t) m' ∧ t.length = recsLen texts
  | [], B, n, recs, s, m, acc, h, _ => ⟨B, [], m, by rw [List.append_nil]; rfl, by rw [List.append_nil]; simpa using h, rfl⟩
  | u :: r, B, n, recs, s, m, acc, h, hs => by
    have hu := hs u (List.mem_cons.2 (Or.inl rfl))
    obtain ⟨B', t, m', e1, e2, e3⟩ := putAcc_chn c r _ n _ _ _ (acc ++ recL (seen B (m ++ sig c u)) m (sig c u)) (h.snoc (t := sig c u) (by rw [sig_size]; omega) (by rw [sig_size]; omega)) (fun t ht => hs t (List.mem_cons.2 (Or.inr ht)))
    refine ⟨B', recL (seen B (m ++ sig c u)) m (sig c u) ++ t, m', ?_, ?_, ?_⟩
    · rw [putAcc_step (by omega), e1, List.append_assoc]
    · rw [List.map_cons, ← List.append_assoc]
      have : recs ++ sig c u :: r.map (sig c) = recs ++ [sig c u] ++ r.map (sig c) := by simp
      rw [this]
      exact e2
    · rw [List.length_append, recL_length, sig_size, e3]
      unfold recsLen
      rw [List.map_cons, List.sum_cons]
      omega
theorem putAcc_none (c : UInt8) : ∀ (texts B : List ByteArray) (m : ByteArray) (acc : List UInt8), (∃ t ∈ texts, 1048832 < t.size) → ∃ B', putAcc c texts B m acc = (B', none)
  | [], B, m, acc, h => by obtain ⟨t, ht, _⟩ := h; cases ht
  | u :: r, B, m, acc, h => by
    by_cases hu : 1048832 < u.size
    · exact ⟨B, putAcc_long hu⟩
    · obtain ⟨t, ht, h1⟩ := h
      rcases List.mem_cons.1 ht with rfl | ht
      · exact absurd h1 hu
      · rw [putAcc_step hu]
        exact putAcc_none c r _ _ _ ⟨t, ht, h1⟩
/-- what a list of records tells -/
def dec : Bool × List ByteArray → List ByteArray → Bool × List ByteArray
  | st, [] => st
  | st, s :: r => match lstep st.1 s with
    | none => st
    | some (sd, t) => dec (sd, st.2 ++ t) r
theorem dec_none {st : Bool × List ByteArray} {s : ByteArray} {r : List ByteArray} (h : lstep st.1 s = none) : dec st (s :: r) = st := by
  conv => lhs; unfold dec
  rw [h]
theorem dec_some {st : Bool × List ByteArray} {s : ByteArray} {r : List ByteArray} {sd : Bool} {t : List ByteArray} (h : lstep st.1 s = some (sd, t)) : dec st (s :: r) = dec (sd, st.2 ++ t) r := by
  conv => lhs; unfold dec
  rw [h]
theorem loadGo_dec {B : List ByteArray} : ∀ (f : Nat) (o : LO) (l : List UInt8), ((loadGo B f o l).sealed, (loadGo B f o l).out) = dec (o.sealed, o.out) (readL B f o.m l)
  | 0, o, l => rfl
  | f + 1, o, l => by
    cases hn : nextP B o.m l with
    | none => rw [loadGo_end hn, readL_none f hn]; rfl
    | some sm =>
      obtain ⟨s, m⟩ := sm
      rw [readL_some f hn]
      cases hs : lstep o.sealed s with
      | none => rw [loadGo_stop hn hs, dec_none hs]
      | some st =>
        obtain ⟨sd, t⟩ := st
        rw [loadGo_step hn hs, dec_some hs]
        exact loadGo_dec f _ _
/-- records that are all taken -/
def Takes : Bool → List ByteArray → Prop
  | _, [] => True
  | sd, s :: r => ∃ sd2 t, lstep sd s = some (sd2, t) ∧ Takes sd2 r
theorem loadGo_all {B : List ByteArray} : ∀ (recs : List ByteArray) (f e : Nat) (m : ByteArray) (sd : Bool) (out : List ByteArray) (r : List UInt8), ChainIn B m recs → Takes sd recs → recs.length < f → nextP B (lastM B m recs) r = none →
    loadGo B f ⟨e, m, sd, out⟩ (chainL B m recs ++ r) = ⟨e + (chainL B m recs).length, lastM B m recs, (dec (sd, out) recs).1, (dec (sd, out) recs).2⟩
  | [], f, e, m, sd, out, r, _, _, hf, hn => by
    obtain ⟨g, rfl⟩ : ∃ g, f = g + 1 := ⟨f - 1, by simp at hf; omega⟩
    show loadGo B (g + 1) ⟨e, m, sd, out⟩ r = _
    rw [loadGo_end (o := ⟨e, m, sd, out⟩) hn]
    rfl
  | s :: rs, f, e, m, sd, out, r, hc, ht, hf, hn => by
    obtain ⟨g, rfl⟩ : ∃ g, f = g + 1 := ⟨f - 1, by simp at hf; omega⟩
    obtain ⟨h1, h2, h3, h4⟩ := hc
    obtain ⟨sd2, t, hl, ht2⟩ := ht
    have e0 : chainL B m (s :: rs) ++ r = recL B m s ++ (chainL B (markOf B (joinT m s)) rs ++ r) := List.append_assoc _ _ _
    have hnx := next_rec (chainL B (markOf B (joinT m s)) rs ++ r) h2 h3 h1
    have hlen := recL_length B m s
    rw [e0, loadGo_step (o := ⟨e, m, sd, out⟩) hnx hl, ← hlen, List.drop_left]
    rw [loadGo_all rs g _ _ sd2 _ r h4 ht2 (by simp at hf; omega) hn, dec_some (st := (sd, out)) hl]
    have e1 : (chainL B m (s :: rs)).length = (recL B m s).length + (chainL B (markOf B (joinT m s)) rs).length := List.length_append
    rw [e1, hlen]
    show LO.mk (e + (36 + s.size) + _) _ _ _ = LO.mk (e + (36 + s.size + _)) _ _ _
    rw [Nat.add_assoc]
    rfl
theorem sig_head (c : UInt8) (s : ByteArray) : head0 (sig c s) = c.toNat := by
  have e : (sig c s).data.toList = c :: s.data.toList := by
    unfold sig
    rw [ByteArray.data_append, Array.toList_append]
    rfl
  unfold head0
  rw [e]
  rfl
theorem sig_rest (c : UInt8) (s : ByteArray) : (sig c s).extract 1 (sig c s).size = s := by
  apply list_inj
  rw [ByteArray.data_extract, Array.toList_extract, List.extract_eq_take_drop]
  have e : (sig c s).data.toList = c :: s.data.toList := by
    unfold sig
    rw [ByteArray.data_append, Array.toList_append]
    rfl
  rw [e, List.drop_succ_cons, List.drop_zero, sig_size, Nat.add_sub_cancel, ← size_list, List.take_length]
theorem lstep_snap (s : ByteArray) : lstep false (sig 83 s) = some (false, [s]) := by
  unfold lstep
  rw [if_neg (fun h => by rw [sig_head] at h; cases h.1), if_pos (Or.inl ⟨by rw [sig_head]; rfl, rfl⟩), sig_rest]
theorem lstep_end : lstep false (sig 69 ⟨#[]⟩) = some (true, []) := by
  unfold lstep
  rw [if_pos ⟨by rw [sig_head]; rfl, rfl, by rw [sig_size]; rfl⟩]
theorem lstep_more (s : ByteArray) : lstep true (sig 82 s) = some (true, [s]) := by
  unfold lstep
  rw [if_neg (fun h => by cases h.2.1), if_pos (Or.inr ⟨by rw [sig_head]; rfl, rfl⟩), sig_rest]
/-- the records of a log -/
def logRecs (snap more : List ByteArray) : List ByteArray := snap.map (sig 83) ++ sig 69 ⟨#[]⟩ :: more.map (sig 82)
theorem takes_more : ∀ (more : List ByteArray), Takes true (more.map (sig 82))
  | [] => trivial
  | s :: r => ⟨true, [s], lstep_more s, takes_more r⟩
theorem dec_more : ∀ (more out : List ByteArray), dec (true, out) (more.map (sig 82)) = (true, out ++ more)
  | [], out => by rw [List.append_nil]; rfl
  | s :: r, out => by
    rw [List.map_cons, dec_some (st := (true, out)) (lstep_more s), dec_more r, List.append_assoc]
    rfl
theorem takes_log : ∀ (snap more : List ByteArray), Takes false (logRecs snap more)
  | [], more => ⟨true, [], lstep_end, takes_more more⟩
  | s :: r, more => ⟨false, [s], lstep_snap s, takes_log r more⟩
theorem dec_log : ∀ (snap more out : List ByteArray), dec (false, out) (logRecs snap more) = (true, out ++ snap ++ more)
  | [], more, out => by
    show dec (false, out) (sig 69 ⟨#[]⟩ :: more.map (sig 82)) = _
    rw [dec_some (st := (false, out)) lstep_end, dec_more]
  | s :: r, more, out => by
    show dec (false, out) (sig 83 s :: logRecs r more) = _
    rw [dec_some (st := (false, out)) (lstep_snap s), dec_log r more]
    simp
theorem logRecs_snoc (snap more : List ByteArray) (s : ByteArray) : logRecs snap more ++ [sig 82 s] = logRecs snap (more ++ [s]) := by
  unfold logRecs
  rw [List.append_assoc, List.map_append]
  rfl
/-- a log without a snapshot whose records are begun: nothing, or what begins the records -/
theorem dec_begins {more c : List ByteArray} (h : c <+: logRecs [] more) : dec (false, []) c = (false, []) ∨ ∃ out, dec (false, []) c = (true, out) ∧ out <+: more := by
  cases c with
  | nil => exact Or.inl rfl
  | cons s r =>
    obtain ⟨q, hq⟩ := h
    have hq2 : s :: (r ++ q) = sig 69 ⟨#[]⟩ :: more.map (sig 82) := hq
    injection hq2 with h1 h2
    subst h1
    obtain ⟨m1, hm1⟩ : ∃ m1, r = (more.take m1).map (sig 82) ∧ m1 ≤ more.length := by
      refine ⟨r.length, ?_, ?_⟩
      · rw [List.map_take, ← h2, List.take_left]
      · have := congrArg List.length h2
        rw [List.length_append, List.length_map] at this
        omega
    right
    refine ⟨more.take m1, ?_, List.take_prefix _ _⟩
    rw [dec_some (st := (false, [])) lstep_end, hm1.1, dec_more]
    rfl
end Go.Proofs.YtkllnihhhgaojaaGreatDoor
namespace Go.Proofs.YtkllnihhhgaojaaGreatDoor
open Go Go.RowKit
set_option linter.unusedVariables false

structure One (P : PS) (n : Nat) (s : List UInt8) (most : Int) : Prop where
  snd : Snd P
  file : ∃ f, P.files = [f] ∧ f.name = wname n ∧ f.seen = s
  off : P.off = false
  fuse : P.fuse < 0
  most_ : P.most = most
  room : ((secs s.length : Nat) : Int) ≤ most
theorem One.find {P : PS} {n : Nat} {s : List UInt8} {most : Int} (h : One P n s most) : findI P.files (wname n) = some 0 ∧ seenAt P 0 = s ∧ usedP P.files = secs s.length := by
  obtain ⟨f, hf, hn, hs⟩ := h.file
  have hle := h.snd.len (f := f) (by rw [hf]; exact List.mem_cons.2 (Or.inl rfl))
  refine ⟨?_, ?_, ?_⟩
  · rw [hf]
    unfold findI
    rw [List.findIdx?_cons, decide_eq_true hn]
    rfl
  · unfold seenAt
    rw [hf]
    exact hs
  · rw [hf]
    unfold usedP secsP
    rw [List.map_cons, List.map_nil, List.sum_cons, List.sum_nil, Nat.max_eq_left hle, hs, Nat.add_zero]
theorem secs_mono {a b : Nat} (h : a ≤ b) : secs a ≤ secs b := by unfold secs; omega
/-- bytes written behind the end: taken where there is room, else not -/
theorem One.write {P : PS} {n : Nat} {s : List UInt8} {most : Int} (h : One P n s most) {t : ByteArray} (ht : 0 < t.size) (hz : s.length + t.size ≤ 2097152) :
    (((secs (s.length + t.size) : Nat) : Int) ≤ most ∧ (P.write (wname n) ((s.length : Nat) : Int) t).1 = 0 ∧ One (P.write (wname n) ((s.length : Nat) : Int) t).2 n (s ++ t.data.toList) most) ∨ (most < ((secs (s.length + t.size) : Nat) : Int) ∧ P.write (wname n) ((s.length : Nat) : Int) t = (7, P)) := by
  obtain ⟨h1, h2, h3⟩ := h.find
  have hw := write_end h.snd h.off h.fuse h1 ht (by rw [h2]; exact hz)
  rw [h2, h3, h.most_] at hw
  have hm := secs_mono (show s.length ≤ s.length + t.size by omega)
  have hr := h.room
  by_cases hf : most - ((secs s.length : Nat) : Int) < ((secs (s.length + t.size) : Nat) : Int) - ((secs s.length : Nat) : Int)
  · rw [if_pos hf] at hw
    exact Or.inr ⟨by omega, hw⟩
  · rw [if_neg hf] at hw
    left
    refine ⟨by omega, by rw [hw], ?_⟩
    have hsn := h.snd.write (wname n) ((s.length : Nat) : Int) t
    rw [hw] at hsn ⊢
    obtain ⟨f, hfl, hn, hs⟩ := h.file
    refine ⟨hsn, ⟨{ f with seen := f.seen ++ t.data.toList }, ?_, hn, ?_⟩, h.off, h.fuse, rfl, ?_⟩
    · show P.files.modify 0 _ = _
      rw [hfl]
      rfl
    · show f.seen ++ _ = _
      rw [hs]
    · rw [List.length_append, size_list]
      omega
theorem One.syncR {P : PS} {n : Nat} {s : List UInt8} {most : Int} (h : One P n s most) : P.syncR.1 = 0 ∧ One P.syncR.2 n s most ∧ P.syncR.2.wait = [] ∧ (∀ f ∈ P.syncR.2.files, f.last = f.seen) ∧ P.syncR.2.count = P.count := by
  have hno : ¬ (P.off = true) := by rw [h.off]; decide
  have e : P.syncR = (0, P.sync) := if_neg hno
  have hs := h.snd.sync
  rw [e]
  rw [h.snd.sync_eq] at hs ⊢
  obtain ⟨f, hfl, hn, hse⟩ := h.file
  refine ⟨rfl, ⟨hs, ⟨{ f with last := f.seen }, ?_, hn, hse⟩, h.off, h.fuse, h.most_, h.room⟩, rfl, fun g hg => ?_, rfl⟩
  · show P.files.map _ = _
    rw [hfl]
    rfl
  · obtain ⟨g, hg, rfl⟩ := List.mem_map.1 hg
    rfl
theorem One.crash {P : PS} {n : Nat} {s : List UInt8} {most : Int} (h : One P n s most) (hw : P.wait = []) (hl : ∀ f ∈ P.files, f.last = f.seen) (l : List Int) : One (P.crash l) n s most := by
  have hs := h.snd.crash l
  obtain ⟨f, hfl, hn, hse⟩ := h.file
  have hlf := hl f (by rw [hfl]; exact List.mem_cons.2 (Or.inl rfl))
  have e : (P.crash l).files = [{ f with seen := f.last }] := by
    unfold PS.crash
    rw [hw, hfl]
    rfl
  exact ⟨hs, ⟨_, e, hn, by show f.last = s; rw [hlf, hse]⟩, rfl, by show (-1 : Int) < 0; omega, h.most_, h.room⟩
theorem One.size {P : PS} {n : Nat} {s : List UInt8} {most : Int} (h : One P n s most) : P.size (wname n) = (((s.length : Nat) : Int), 0) := by
  obtain ⟨h1, h2, h3⟩ := h.find
  rw [size_some h.off h1]
  have e : seenI P 0 = (seenAt P 0).length := by
    unfold seenI seenAt
    cases P.files[0]? <;> rfl
  rw [e, h2]
theorem One.read {P : PS} {n : Nat} {s : List UInt8} {most : Int} (h : One P n s most) {p k : Nat} : P.read (wname n) (p : Int) (k : Int) = (textOf ((s.drop p).take k), 0) := by
  obtain ⟨h1, h2, h3⟩ := h.find
  unfold PS.read
  rw [if_neg (by rw [h.off]; decide), h1]
  show (if _ then _ else _) = _
  rw [if_neg (by omega), h2]
  rfl
theorem One.segs {P : PS} {n : Nat} {s : List UInt8} {most : Int} (h : One P n s most) (hn : n < 100000000) : segsP P = [n] := by
  obtain ⟨f, hfl, hnm, hse⟩ := h.file
  unfold segsP segsL
  rw [hfl]
  show List.filterMap wnum [f.name] = _
  rw [hnm]
  simp [wnum_name n hn]
/-- a log whose records are whole, found again: nothing is turned -/
theorem One.open {P : PS} {n : Nat} {s : List UInt8} {most : Int} (h : One P n s most) (hn : n < 100000000) {B snap more : List ByteArray} {m : ByteArray} (hc : Chn B n (logRecs snap more) s m) :
    wopen P B = ⟨0, P, ⟨n, s.length, m⟩, snap ++ more⟩ := by
  have hno : ¬ (P.off = true) := by rw [h.off]; decide
  have hld : loadP P B n = some ⟨s.length, m, true, snap ++ more⟩ := by
    unfold loadP
    have hr := h.read (p := 0) (k := s.length)
    have e0 : P.read (wname n) 0 (P.size (wname n)).1 = (textOf s, 0) := by
      rw [h.size]
      show P.read (wname n) ((0 : Nat) : Int) (s.length : Nat) = _
      rw [hr, List.drop_zero, List.take_length]
    rw [e0, h.size, if_neg (fun h => h rfl), if_neg (fun h => h rfl)]
    show some (loadGo B ((textOf s).size + 1) ⟨0, firstM n, false, []⟩ (textOf s).data.toList) = _
    rw [textOf_list, textOf_size]
    have hlen : (logRecs snap more).length < s.length + 1 := by
      have key : ∀ (recs : List ByteArray) (m : ByteArray), recs.length ≤ (chainL B m recs).length := by
        intro recs
        induction recs with
        | nil => exact fun m => Nat.zero_le _
        | cons r rs ih =>
          intro m
          have := ih (markOf B (joinT m r))
          have e1 : (chainL B m (r :: rs)).length = (recL B m r).length + (chainL B (markOf B (joinT m r)) rs).length := List.length_append
          rw [e1, recL_length, List.length_cons]
          omega
      have := key (logRecs snap more) (firstM n)
      rw [← hc.bytes] at this
      omega
    have hg := loadGo_all (B := B) (logRecs snap more) (s.length + 1) 0 (firstM n) false [] [] hc.inB (takes_log snap more) hlen (next_nil B _)
    rw [List.append_nil, ← hc.bytes, ← hc.mark, dec_log] at hg
    rw [hg, Nat.zero_add]
    rfl
  have hwp : wwipe P ⟨n, s.length, m⟩ = (0, P) := by
    unfold wwipe
    have e0 : P.read (wname n) ((s.length : Nat) : Int) ((P.size (wname n)).1 - ((s.length : Nat) : Int)) = (textOf [], 0) := by
      rw [h.size]
      have := h.read (p := s.length) (k := 0)
      rw [List.take_zero] at this
      show P.read (wname n) ((s.length : Nat) : Int) (((s.length : Nat) : Int) - ((s.length : Nat) : Int)) = _
      rw [Int.sub_self]
      exact this
    show (if (P.size (wname n)).2 ≠ 0 then _ else _) = _
    rw [e0, h.size, if_neg (fun h => h rfl), if_neg (fun h => h rfl)]
    exact if_pos rfl
  have hrb : removeBut [n] n P = P := by
    show (if n ≠ n then _ else P) = P
    rw [if_neg (fun h => h rfl)]
  unfold wopen
  rw [if_neg hno, h.segs hn, openGo_take hld rfl]
  unfold wtake
  rw [hrb]
  show (if (wwipe P ⟨n, s.length, m⟩).1 ≠ 0 then _ else _) = _
  rw [hwp, if_neg (fun h => h rfl)]
/-- a record appended: taken, or there is no room -/
theorem One.append {P : PS} {n : Nat} {s : List UInt8} {most : Int} (h : One P n s most) {B recs : List ByteArray} {m t : ByteArray} (hc : Chn B n recs s m) (ht : t.size ≤ 1048832) (hz : s.length + (t.size + 37) ≤ 2097152) :
    ∃ B', Grow B B' ∧ B'.length ≤ B.length + 1 ∧ ((((secs (s.length + (t.size + 37)) : Nat) : Int) ≤ most ∧ ∃ P' s' m', wappend P B ⟨n, s.length, m⟩ t = ⟨0, P', B', ⟨n, s'.length, m'⟩⟩ ∧ One P' n s' most ∧ Chn B' n (recs ++ [sig 82 t]) s' m' ∧ s'.length = s.length + (t.size + 37)) ∨
      (most < ((secs (s.length + (t.size + 37)) : Nat) : Int) ∧ wappend P B ⟨n, s.length, m⟩ t = ⟨7, P, B', ⟨n, s.length, m⟩⟩ ∧ Chn B' n recs s m)) := by
  obtain ⟨B', u, m', e1, e2, e3⟩ := putAcc_chn 82 [t] B n recs s m [] hc (fun x hx => by rw [List.mem_singleton.1 hx]; exact ht)
  have hg := putAcc_grow 82 [t] B m []
  have hl := putAcc_B 82 [t] B m []
  rw [e1] at hg hl
  rw [List.nil_append] at e1
  have hu : u.length = t.size + 37 := e3
  refine ⟨B', hg, hl, ?_⟩
  rcases h.write (t := textOf u) (by rw [textOf_size]; omega) (by rw [textOf_size]; omega) with ⟨k1, k2, k3⟩ | ⟨k1, k2⟩
  · left
    rw [textOf_size, hu] at k1
    rw [textOf_list] at k3
    refine ⟨k1, _, s ++ u, m', ?_, k3, e2, by rw [List.length_append, hu]⟩
    show wput P B ⟨n, s.length, m⟩ 82 [t] = _
    rw [wput_ok (L := ⟨n, s.length, m⟩) e1 k2, List.length_append]
  · right
    rw [textOf_size, hu] at k1
    refine ⟨k1, ?_, hg n recs s m hc⟩
    show wput P B ⟨n, s.length, m⟩ 82 [t] = _
    rw [wput_no (L := ⟨n, s.length, m⟩) e1 (by rw [k2]; show ¬ ((7 : Int) = 0); omega), k2]
end Go.Proofs.YtkllnihhhgaojaaGreatDoor
namespace Go.Proofs.YtkllnihhhgaojaaGreatDoor
open Go Go.RowKit
set_option linter.unusedVariables false

/-- the names of a device's files, and what is seen of them -/
def vw (P : PS) : List (ByteArray × List UInt8) := P.files.map fun f => (f.name, f.seen)
def vsum (l : List (ByteArray × List UInt8)) : Nat := (l.map fun x => secs x.2.length).sum
theorem vsum_append (a b : List (ByteArray × List UInt8)) : vsum (a ++ b) = vsum a + vsum b := by
  unfold vsum
  rw [List.map_append, List.sum_append]
theorem vsum_cons (x : ByteArray × List UInt8) (b : List (ByteArray × List UInt8)) : vsum (x :: b) = secs x.2.length + vsum b := by
  unfold vsum
  rw [List.map_cons, List.sum_cons]
theorem used_vw {P : PS} (h : Snd P) : usedP P.files = vsum (vw P) := by
  unfold usedP vsum vw
  rw [List.map_map]
  congr 1
  apply List.map_congr_left
  intro f hf
  show secsP f = secs f.seen.length
  unfold secsP
  rw [Nat.max_eq_left (h.len hf)]
/-- the power is on and does not fail -/
structure Calm (P : PS) (most : Int) : Prop where
  snd : Snd P
  off : P.off = false
  fuse : P.fuse < 0
  most_ : P.most = most
  room : ((vsum (vw P) : Nat) : Int) ≤ most
structure At (P : PS) (A C : List (ByteArray × List UInt8)) (n : Nat) (s : List UInt8) (most : Int) : Prop where
  calm : Calm P most
  view : vw P = A ++ (wname n, s) :: C
  fresh : ∀ x ∈ A, x.1 ≠ wname n
theorem find_vw {P : PS} {A C : List (ByteArray × List UInt8)} {x : ByteArray × List UInt8} (h : vw P = A ++ x :: C) (hf : ∀ y ∈ A, y.1 ≠ x.1) : findI P.files x.1 = some A.length ∧ seenAt P A.length = x.2 := by
  have hl : P.files.length = A.length + (C.length + 1) := by
    have := congrArg List.length h
    unfold vw at this
    simpa using this
  have hget : ∀ j (hj : j < P.files.length), (P.files[j].name, P.files[j].seen) = (A ++ x :: C)[j]'(by rw [← h]; unfold vw; rw [List.length_map]; exact hj) := fun j hj => by
    have : (vw P)[j]'(by unfold vw; rw [List.length_map]; exact hj) = (P.files[j].name, P.files[j].seen) := by
      unfold vw
      rw [List.getElem_map]
    rw [← this]
    congr 1
  have h0 := hget A.length (by omega)
  rw [List.getElem_append_right (Nat.le_refl _)] at h0
  simp only [Nat.sub_self, List.getElem_cons_zero] at h0
  refine ⟨?_, ?_⟩
  · unfold findI
    rw [List.findIdx?_eq_some_iff_getElem]
    refine ⟨by omega, by rw [← h0]; simp, fun j hj => ?_⟩
    have h1 := hget j (by omega)
    rw [List.getElem_append_left hj] at h1
    have h2 := hf A[j] (List.getElem_mem hj)
    rw [← h1] at h2
    simpa using h2
  · rw [seenAt_get (by omega)]
    rw [← h0]
theorem At.find {P : PS} {A C : List (ByteArray × List UInt8)} {n : Nat} {s : List UInt8} {most : Int} (h : At P A C n s most) : findI P.files (wname n) = some A.length ∧ seenAt P A.length = s := find_vw h.view h.fresh
theorem vw_modify {P : PS} {A C : List (ByteArray × List UInt8)} {x : ByteArray × List UInt8} (h : vw P = A ++ x :: C) (t : List UInt8) : (P.files.modify A.length fun f => { f with seen := f.seen ++ t }).map (fun f => (f.name, f.seen)) = A ++ (x.1, x.2 ++ t) :: C := by
  have e : (P.files.modify A.length fun f => { f with seen := f.seen ++ t }).map (fun f => (f.name, f.seen)) = (vw P).modify A.length fun y => (y.1, y.2 ++ t) := by
    unfold vw
    apply List.ext_getElem
    · simp
    · intro j h1 h2
      rw [List.getElem_map, List.getElem_modify, List.getElem_modify, List.getElem_map]
      split <;> rfl
  rw [e, h]
  apply List.ext_getElem
  · simp
  · intro j h1 h2
    rw [List.getElem_modify]
    by_cases hj : A.length = j
    · subst hj
      rw [if_pos rfl, List.getElem_append_right (Nat.le_refl _), List.getElem_append_right (Nat.le_refl _)]
      simp
    · rw [if_neg hj]
      by_cases hlt : j < A.length
      · rw [List.getElem_append_left hlt, List.getElem_append_left hlt]
      · rw [List.getElem_append_right (by omega), List.getElem_append_right (by omega)]
        obtain ⟨q, hq⟩ : ∃ q, j - A.length = q + 1 := ⟨j - A.length - 1, by omega⟩
        simp only [hq, List.getElem_cons_succ]
theorem At.write {P : PS} {A C : List (ByteArray × List UInt8)} {n : Nat} {s : List UInt8} {most : Int} (h : At P A C n s most) {t : ByteArray} (ht : 0 < t.size) (hz : s.length + t.size ≤ 2097152) :
    (((vsum (A ++ C) + secs (s.length + t.size) : Nat) : Int) ≤ most ∧ (P.write (wname n) ((s.length : Nat) : Int) t).1 = 0 ∧ At (P.write (wname n) ((s.length : Nat) : Int) t).2 A C n (s ++ t.data.toList) most) ∨ (most < ((vsum (A ++ C) + secs (s.length + t.size) : Nat) : Int) ∧ P.write (wname n) ((s.length : Nat) : Int) t = (7, P)) := by
  obtain ⟨h1, h2⟩ := h.find
  have h3 := used_vw h.calm.snd
  rw [h.view, vsum_append, vsum_cons] at h3
  have h4 := vsum_append A C
  have hw := write_end h.calm.snd h.calm.off h.calm.fuse h1 ht (by rw [h2]; exact hz)
  rw [h2, h3, h.calm.most_] at hw
  have hm := secs_mono (show s.length ≤ s.length + t.size by omega)
  simp only at hw
  by_cases hf : most - ((vsum A + (secs s.length + vsum C) : Nat) : Int) < ((secs (s.length + t.size) : Nat) : Int) - ((secs s.length : Nat) : Int)
  · rw [if_pos hf] at hw
    exact Or.inr ⟨by omega, hw⟩
  · rw [if_neg hf] at hw
    left
    refine ⟨by omega, by rw [hw], ?_⟩
    have hsn := h.calm.snd.write (wname n) ((s.length : Nat) : Int) t
    rw [hw] at hsn ⊢
    have hv := vw_modify h.view t.data.toList
    refine ⟨⟨hsn, h.calm.off, h.calm.fuse, rfl, ?_⟩, hv, h.fresh⟩
    have hv2 : vw { P with count := P.count + ((cutsP (idAt P A.length) t.size s.length t).length : Nat), wait := P.wait ++ cutsP (idAt P A.length) t.size s.length t, files := P.files.modify A.length fun f => { f with seen := f.seen ++ t.data.toList }, most := most } = A ++ (wname n, s ++ t.data.toList) :: C := hv
    show ((vsum (vw _) : Nat) : Int) ≤ most
    rw [hv2, vsum_append, vsum_cons, List.length_append, size_list]
    omega
theorem Calm.syncR {P : PS} {most : Int} (h : Calm P most) : P.syncR.1 = 0 ∧ Calm P.syncR.2 most ∧ vw P.syncR.2 = vw P ∧ P.syncR.2.wait = [] ∧ (∀ f ∈ P.syncR.2.files, f.last = f.seen) ∧ P.syncR.2.count = P.count := by
  have hno : ¬ (P.off = true) := by rw [h.off]; decide
  have e : P.syncR = (0, P.sync) := if_neg hno
  have hs := h.snd.sync
  rw [e]
  rw [h.snd.sync_eq] at hs ⊢
  have hv : vw { P with files := P.files.map fun f => { f with last := f.seen }, wait := [] } = vw P := by
    unfold vw
    rw [List.map_map]
    rfl
  refine ⟨rfl, ⟨hs, h.off, h.fuse, h.most_, by rw [hv]; exact h.room⟩, hv, rfl, fun g hg => ?_, rfl⟩
  obtain ⟨g, hg, rfl⟩ := List.mem_map.1 hg
  rfl
theorem okName_wname (n : Nat) : okName (wname n) = true := by
  have hd : ∀ k : Nat, okByte (UInt8.ofNat (48 + k % 10)) = true := fun k => by
    unfold okByte
    rw [UInt8.toNat_ofNat', decide_eq_true (by omega), decide_eq_true (by omega)]
    rfl
  unfold okName
  have e : (wname n).data.toList = segL ++ digL n := by
    show (segL ++ digL n).toArray.toList = _
    simp
  rw [e, wname_size, List.all_append]
  have h1 : (digL n).all okByte = true := by
    unfold digL
    simp only [List.all_cons, List.all_nil, hd, Bool.and_true]
  rw [h1]
  rfl
theorem Calm.create {P : PS} {most : Int} (h : Calm P most) {n : Nat} (hf : ∀ x ∈ vw P, x.1 ≠ wname n) : (P.create (wname n)).1 = 0 ∧ ∃ A C, A ++ C = vw P ∧ At (P.create (wname n)).2 A C n [] most := by
  have hnone : findI P.files (wname n) = none := by
    unfold findI
    rw [List.findIdx?_eq_none_iff]
    intro f hfm
    exact decide_eq_false (hf (f.name, f.seen) (List.mem_map.2 ⟨f, hfm, rfl⟩))
  have hs := h.snd.create (wname n)
  have e : P.create (wname n) = (0, { P with files := P.files.take (lowerP P.files (wname n)) ++ ⟨P.made, wname n, [], []⟩ :: P.files.drop (lowerP P.files (wname n)), made := P.made + 1 }) := by
    unfold PS.create
    rw [if_neg (by rw [h.off]; decide), if_neg (by rw [okName_wname]; decide), hnone]
    rfl
  rw [e] at hs ⊢
  refine ⟨rfl, (vw P).take (lowerP P.files (wname n)), (vw P).drop (lowerP P.files (wname n)), List.take_append_drop _ _, ?_⟩
  have hv : vw { P with files := P.files.take (lowerP P.files (wname n)) ++ ⟨P.made, wname n, [], []⟩ :: P.files.drop (lowerP P.files (wname n)), made := P.made + 1 } = (vw P).take (lowerP P.files (wname n)) ++ (wname n, []) :: (vw P).drop (lowerP P.files (wname n)) := by
    unfold vw
    rw [List.map_append, List.map_cons, List.map_take, List.map_drop]
  refine ⟨⟨hs, h.off, h.fuse, h.most_, ?_⟩, hv, fun x hx => hf x (List.mem_of_mem_take hx)⟩
  rw [hv, vsum_append, vsum_cons]
  have h2 := vsum_append ((vw P).take (lowerP P.files (wname n))) ((vw P).drop (lowerP P.files (wname n)))
  rw [List.take_append_drop] at h2
  have h3 := h.room
  have h4 : secs ([] : List UInt8).length = 0 := rfl
  show ((vsum _ + (secs ([] : List UInt8).length + vsum _) : Nat) : Int) ≤ most
  rw [h4]
  omega
theorem Calm.remove {P : PS} {most : Int} (h : Calm P most) {A C : List (ByteArray × List UInt8)} {x : ByteArray × List UInt8} (hv : vw P = A ++ x :: C) (hf : ∀ y ∈ A, y.1 ≠ x.1) : Calm (P.remove x.1).2 most ∧ vw (P.remove x.1).2 = A ++ C ∧ (P.wait = [] → (P.remove x.1).2.wait = []) ∧ ((∀ f ∈ P.files, f.last = f.seen) → ∀ f ∈ (P.remove x.1).2.files, f.last = f.seen) := by
  obtain ⟨h1, h2⟩ := find_vw hv hf
  have hs := h.snd.remove x.1
  have e : P.remove x.1 = (0, { P with files := P.files.eraseIdx A.length, wait := P.wait.filter (keepP (idAt P A.length)) }) := by
    unfold PS.remove
    rw [if_neg (by rw [h.off]; decide), h1]
  rw [e] at hs ⊢
  have hw : vw { P with files := P.files.eraseIdx A.length, wait := P.wait.filter (keepP (idAt P A.length)) } = A ++ C := by
    have : (P.files.eraseIdx A.length).map (fun f => (f.name, f.seen)) = (vw P).eraseIdx A.length := by
      unfold vw
      rw [List.eraseIdx_eq_take_drop_succ, List.eraseIdx_eq_take_drop_succ, List.map_append, List.map_take, List.map_drop]
    show (P.files.eraseIdx A.length).map _ = _
    rw [this, hv, List.eraseIdx_append_of_length_le (Nat.le_refl _), Nat.sub_self]
    rfl
  refine ⟨⟨hs, h.off, h.fuse, h.most_, ?_⟩, hw, fun hw0 => by show P.wait.filter _ = []; rw [hw0]; rfl, fun hl f hf => hl f ((List.eraseIdx_sublist _ _).subset hf)⟩
  rw [hw]
  have := h.room
  rw [hv, vsum_append, vsum_cons] at this
  rw [vsum_append]
  omega
theorem Calm.one {P : PS} {most : Int} (h : Calm P most) {n : Nat} {s : List UInt8} (hv : vw P = [(wname n, s)]) : One P n s most := by
  have hl : P.files.length = 1 := by
    have := congrArg List.length hv
    unfold vw at this
    simpa using this
  obtain ⟨f, hf⟩ := List.length_eq_one_iff.1 hl
  have : [(f.name, f.seen)] = [(wname n, s)] := by
    rw [← hv]
    unfold vw
    rw [hf]
    rfl
  injection this with h1 _
  injection h1 with h1 h2
  have hr := h.room
  rw [hv] at hr
  exact ⟨h.snd, ⟨f, hf, h1, h2⟩, h.off, h.fuse, h.most_, by
    have e : vsum [(wname n, s)] = secs s.length := by unfold vsum; simp
    rw [e] at hr
    exact hr⟩
theorem One.calm {P : PS} {n : Nat} {s : List UInt8} {most : Int} (h : One P n s most) : Calm P most ∧ vw P = [(wname n, s)] := by
  obtain ⟨f, hf, h1, h2⟩ := h.file
  have hv : vw P = [(wname n, s)] := by
    unfold vw
    rw [hf, ← h1, ← h2]
    rfl
  refine ⟨⟨h.snd, h.off, h.fuse, h.most_, ?_⟩, hv⟩
  rw [hv]
  have e : vsum [(wname n, s)] = secs s.length := by unfold vsum; simp
  rw [e]
  exact h.room
theorem newP_calm (m : Int) (h : 0 ≤ m) : Calm (newP m) m ∧ vw (newP m) = [] := ⟨⟨Snd.newP m, rfl, by show (-1 : Int) < 0; omega, rfl, by show ((vsum [] : Nat) : Int) ≤ m; exact h⟩, rfl⟩
/-- records put behind a file's end -/
theorem At.put {P : PS} {A C : List (ByteArray × List UInt8)} {n : Nat} {s : List UInt8} {most : Int} (h : At P A C n s most) {B recs texts : List ByteArray} {m : ByteArray} (c : UInt8) (hc : Chn B n recs s m) (ht : ∀ t ∈ texts, t.size ≤ 1048832) (hz : s.length + recsLen texts ≤ 2097152) :
    ∃ B', Grow B B' ∧ B'.length ≤ B.length + texts.length ∧ ((((vsum (A ++ C) + secs (s.length + recsLen texts) : Nat) : Int) ≤ most ∧ ∃ P' s' m', wput P B ⟨n, s.length, m⟩ c texts = ⟨0, P', B', ⟨n, s'.length, m'⟩⟩ ∧ At P' A C n s' most ∧ Chn B' n (recs ++ texts.map (sig c)) s' m' ∧ s'.length = s.length + recsLen texts) ∨
      (most < ((vsum (A ++ C) + secs (s.length + recsLen texts) : Nat) : Int) ∧ wput P B ⟨n, s.length, m⟩ c texts = ⟨7, P, B', ⟨n, s.length, m⟩⟩)) := by
  obtain ⟨B', u, m', e1, e2, e3⟩ := putAcc_chn c texts B n recs s m [] hc ht
  have hg := putAcc_grow c texts B m []
  have hl := putAcc_B c texts B m []
  rw [e1] at hg hl
  rw [List.nil_append] at e1
  refine ⟨B', hg, hl, ?_⟩
  have hr := h.calm.room
  rw [h.view, vsum_append, vsum_cons] at hr
  have hac := vsum_append A C
  by_cases hu : u.length = 0
  · left
    have hun : u = [] := List.length_eq_zero_iff.1 hu
    obtain ⟨h1, h2⟩ := h.find
    have hw := write_none (a := s.length) h.calm.off h1 (t := textOf u) (by rw [textOf_size]; exact hu) (by omega)
    have h0 : recsLen texts = 0 := by omega
    refine ⟨by rw [h0]; simp only at hr; rw [Nat.add_zero]; omega, P, s, m', ?_, h, ?_, by omega⟩
    · rw [wput_ok (L := ⟨n, s.length, m⟩) e1 (by rw [hw]), hw, hu]
      rfl
    · rw [hun, List.append_nil] at e2
      exact e2
  · rcases h.write (t := textOf u) (by rw [textOf_size]; omega) (by rw [textOf_size]; omega) with ⟨k1, k2, k3⟩ | ⟨k1, k2⟩
    · left
      rw [textOf_size, e3] at k1
      rw [textOf_list] at k3
      refine ⟨k1, _, s ++ u, m', ?_, k3, e2, by rw [List.length_append, e3]⟩
      rw [wput_ok (L := ⟨n, s.length, m⟩) e1 k2, List.length_append]
    · right
      rw [textOf_size, e3] at k1
      exact ⟨k1, by rw [wput_no (L := ⟨n, s.length, m⟩) e1 (by rw [k2]; show ¬ ((7 : Int) = 0); omega), k2]⟩
/-- a segment begun: there is room, or all is as it was -/
theorem Calm.begin {P : PS} {most : Int} (h : Calm P most) {n : Nat} (hf : ∀ x ∈ vw P, x.1 ≠ wname n) (B snap : List ByteArray) (ht : ∀ t ∈ snap, t.size ≤ 1048832) (hz : recsLen snap + 37 ≤ 2097152) :
    ∃ B', Grow B B' ∧ B'.length ≤ B.length + snap.length + 1 ∧ ((((vsum (vw P) + secs (recsLen snap + 37) : Nat) : Int) ≤ most ∧ ∃ P' s m A C, wbegin P B n snap = ⟨0, P', B', ⟨n, s.length, m⟩⟩ ∧ A ++ C = vw P ∧ At P' A C n s most ∧ Chn B' n (logRecs snap []) s m ∧ s.length = recsLen snap + 37 ∧ P'.wait = [] ∧ ∀ f ∈ P'.files, f.last = f.seen) ∨
      (most < ((vsum (vw P) + secs (recsLen snap + 37) : Nat) : Int) ∧ ∃ P' L, wbegin P B n snap = ⟨7, P', B', L⟩ ∧ Calm P' most ∧ vw P' = vw P)) := by
  obtain ⟨hc0, A, C, hac, hA⟩ := h.create hf
  have hwb : wbegin P B n snap = wdrop n (wsync (wseal (wput (P.create (wname n)).2 B ⟨n, 0, firstM n⟩ 83 snap))) := by
    unfold wbegin
    rw [if_neg (fun h => h hc0)]
  rw [hwb, ← hac]
  obtain ⟨B1, hg1, hl1, ⟨r1, P1, s1, m1, e1, a1, c1, l1⟩ | ⟨r1, e1⟩⟩ := hA.put 83 (Chn.nil B n) ht (by show 0 + _ ≤ _; omega)
  · have e1' : wput (P.create (wname n)).2 B ⟨n, 0, firstM n⟩ 83 snap = ⟨0, P1, B1, ⟨n, s1.length, m1⟩⟩ := e1
    have hl1' : s1.length = recsLen snap := by rw [l1]; show 0 + _ = _; omega
    obtain ⟨B2, hg2, hl2, ⟨r2, P2, s2, m2, e2, a2, c2, l2⟩ | ⟨r2, e2⟩⟩ := a1.put 69 c1 (texts := [⟨#[]⟩]) (fun t ht => by rw [List.mem_singleton.1 ht]; decide) (by show s1.length + 37 ≤ _; omega)
    · have l2' : s2.length = recsLen snap + 37 := by rw [l2]; show s1.length + 37 = _; omega
      have r2' : ((vsum (A ++ C) + secs (recsLen snap + 37) : Nat) : Int) ≤ most := by
        have e : s1.length + recsLen [⟨#[]⟩] = recsLen snap + 37 := by show s1.length + 37 = _; omega
        rw [e] at r2
        exact r2
      obtain ⟨q1, q2, q3, q4, q5, q6⟩ := a2.calm.syncR
      refine ⟨B2, hg1.trans hg2, by simp at hl2; omega, Or.inl ⟨r2', P2.syncR.2, s2, m2, A, C, ?_, rfl, ⟨q2, by rw [q3]; exact a2.view, a2.fresh⟩, c2, l2', q4, q5⟩⟩
      rw [e1']
      have hs : wseal ⟨0, P1, B1, ⟨n, s1.length, m1⟩⟩ = ⟨0, P2, B2, ⟨n, s2.length, m2⟩⟩ := e2
      rw [hs]
      have hy : wsync ⟨0, P2, B2, ⟨n, s2.length, m2⟩⟩ = ⟨0, P2.syncR.2, B2, ⟨n, s2.length, m2⟩⟩ := by
        show WR.mk P2.syncR.1 _ _ _ = _
        rw [q1]
      rw [hy]
      rfl
    · have r2' : most < ((vsum (A ++ C) + secs (recsLen snap + 37) : Nat) : Int) := by
        have e : s1.length + recsLen [⟨#[]⟩] = recsLen snap + 37 := by show s1.length + 37 = _; omega
        rw [e] at r2
        exact r2
      obtain ⟨k1, k2, _⟩ := a1.calm.remove a1.view a1.fresh
      refine ⟨B2, hg1.trans hg2, by simp at hl2; omega, Or.inr ⟨r2', (P1.remove (wname n)).2, ⟨n, s1.length, m1⟩, ?_, k1, k2⟩⟩
      rw [e1']
      have hs : wseal ⟨0, P1, B1, ⟨n, s1.length, m1⟩⟩ = ⟨7, P1, B2, ⟨n, s1.length, m1⟩⟩ := e2
      rw [hs]
      rfl
  · have hm := secs_mono (show 0 + recsLen snap ≤ recsLen snap + 37 by omega)
    obtain ⟨k1, k2, _⟩ := hA.calm.remove hA.view hA.fresh
    refine ⟨B1, hg1, by omega, Or.inr ⟨by
      have : ((vsum (A ++ C) + secs (0 + recsLen snap) : Nat) : Int) ≤ ((vsum (A ++ C) + secs (recsLen snap + 37) : Nat) : Int) := by omega
      have r1' : most < ((vsum (A ++ C) + secs (0 + recsLen snap) : Nat) : Int) := r1
      omega, ((P.create (wname n)).2.remove (wname n)).2, ⟨n, 0, firstM n⟩, ?_, k1, k2⟩⟩
    have e1' : wput (P.create (wname n)).2 B ⟨n, 0, firstM n⟩ 83 snap = ⟨7, (P.create (wname n)).2, B1, ⟨n, 0, firstM n⟩⟩ := e1
    rw [e1']
    rfl
theorem laid_one (m : Int) (h : 1 ≤ m) : ∃ P B mk s, wformat (newP m) [] = ⟨0, P, B, ⟨1, s.length, mk⟩⟩ ∧ One P 1 s m ∧ Chn B 1 (logRecs [] []) s mk ∧ s.length = 37 ∧ B.length ≤ 1 ∧ P.wait = [] ∧ ∀ f ∈ P.files, f.last = f.seen := by
  obtain ⟨hc, hv⟩ := newP_calm m (by omega)
  have hf : wformat (newP m) [] = wbegin (newP m) [] 1 [] := rfl
  obtain ⟨B, hg, hl, ⟨r, P, s, mk, A, C, e, hac, ha, hch, hlen, hw, hls⟩ | ⟨r, _⟩⟩ := hc.begin (n := 1) (by rw [hv]; intro x hx; cases hx) [] [] (fun t ht => by cases ht) (by decide)
  · rw [hv] at hac
    obtain ⟨rfl, rfl⟩ := List.append_eq_nil_iff.1 hac
    exact ⟨P, B, mk, s, by rw [hf, e], ha.calm.one ha.view, hch, hlen, by simpa using hl, hw, hls⟩
  · rw [hv] at r
    have e : vsum [] + secs (recsLen [] + 37) = 1 := rfl
    rw [e] at r
    omega
end Go.Proofs.YtkllnihhhgaojaaGreatDoor
