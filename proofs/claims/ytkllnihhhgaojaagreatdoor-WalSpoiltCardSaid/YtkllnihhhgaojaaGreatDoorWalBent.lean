/- A byte of a segment changed, and what opening the log then finds. Conditions: sizes. -/
import Derived.Test.YtkllnihhhgaojaaGreatDoorWalRows
namespace Go.Proofs.YtkllnihhhgaojaaGreatDoor
open Go Go.RowKit
set_option linter.unusedVariables false

def PS.spoil (P : PS) (s : ByteArray) (a y : Int) : Int × PS := match findI P.files s with
  | none => (8, P)
  | some i => match P.files[i]? with
    | none => (8, P)
    | some f => if a < 0 ∨ (f.last.length : Int) ≤ a then (2, P) else (0, { P with files := P.files.set i { f with last := bentAt f.last a.toNat y, seen := bentAt f.seen a.toNat y } })
theorem spoil_any (b n : Nat) (S : DSt) (s : ByteArray) (a y : Int) (w : World) (h : DiskAt w b S) (hok : OkP n S.pl) (hn : n ≤ 1000000000) :
    Calls Tryz.prog 14 #[.pointer (some ⟨b, 0, none⟩), .string s, .int .i64 a, .int .i64 y] w fun e w' => e = .returned (.int .i64 (S.pl.spoil s a y).1) ∧ ∃ S', Dev b S w S' w' ∧ S'.pl = (S.pl.spoil s a y).2 := by
  obtain ⟨hor, hl, _⟩ := hok.ready hn
  rcases find_both hor s with ⟨h1, h2⟩ | ⟨i, hi, h1, h2, h3⟩
  · have e0 : S.pl.spoil s a y = (8, S.pl) := by unfold PS.spoil; rw [pl_files, h2]
    rw [e0]
    refine (spoil_none b S s a y w h hor hl h1).mono ?_
    rintro e w' ⟨rfl, rfl⟩
    exact ⟨rfl, S, Dev.refl h, rfl⟩
  · have e8 : S.pl.files[i]? = some S.files[i].pl := by rw [pl_files, List.getElem?_map, List.getElem?_eq_getElem hi]; rfl
    have eF : findI S.pl.files s = some i := by rw [pl_files]; exact h2
    by_cases hr : a < 0 ∨ (S.files[i].last.length : Int) ≤ a
    · have e0 : S.pl.spoil s a y = (2, S.pl) := by
        unfold PS.spoil
        rw [eF]
        show (match S.pl.files[i]? with | none => _ | some f => _ : Int × PS) = _
        rw [e8]
        exact if_pos hr
      rw [e0]
      refine (spoil_range b S s a y _ w h hor hl h1 hr).mono ?_
      rintro e w' ⟨rfl, rfl⟩
      exact ⟨rfl, S, Dev.refl h, rfl⟩
    · obtain ⟨m, rfl⟩ := Int.eq_ofNat_of_zero_le (show 0 ≤ a by omega)
      have e0 : S.pl.spoil s (m : Int) y = (0, ({ S with files := S.files.set i (bentF m y S.files[i]) } : DSt).pl) := by
        unfold PS.spoil
        rw [eF]
        show (match S.pl.files[i]? with | none => _ | some f => _ : Int × PS) = _
        rw [e8]
        refine (if_neg hr).trans ?_
        show (0, PS.mk (S.pl.files.set i _) _ _ _ _ _ _) = (0, PS.mk ((S.files.set i _).map DFile.pl) _ _ _ _ _ _)
        rw [List.map_set, pl_files]
        rfl
      rw [e0]
      have fin : ∀ {e : Ending} {w' : World}, e = .returned (.int .i64 0) ∧ Dev b S w { S with files := S.files.set i (bentF m y S.files[i]) } w' → e = .returned (.int .i64 0) ∧ ∃ S', Dev b S w S' w' ∧ S'.pl = ({ S with files := S.files.set i (bentF m y S.files[i]) } : DSt).pl := fun ⟨he, hd⟩ => ⟨he, _, hd, rfl⟩
      by_cases hs : S.files[i].seen.length ≤ m
      · exact (spoil_last b S s m y i hi w h hor hl h1 (by omega) hs).mono fun _ _ hh => fin hh
      · exact (spoil_both b S s m y i hi w h hor hl h1 (by omega) (by omega)).mono fun _ _ hh => fin hh
theorem OkP.spoil {n : Nat} {P : PS} (h : OkP n P) (s : ByteArray) (a y : Int) : OkP n (P.spoil s a y).2 := by
  unfold PS.spoil
  split
  · exact h
  · next i hi =>
    split
    · exact h
    · next f hf =>
      split
      · exact h
      · have hil : i < P.files.length := (List.getElem?_eq_some_iff.1 hf).1
        have hfe : P.files[i] = f := (List.getElem?_eq_some_iff.1 hf).2
        have hb : ∀ (l : List UInt8) (m : Nat), (bentAt l m y).length = l.length := fun l m => by unfold bentAt; rw [List.length_set]
        refine ⟨?_, ?_, h.wlen, h.count, h.made, h.most, h.fuse, ?_, h.wait⟩
        · show (P.files.set i _).Pairwise _
          have hn := h.names
          rw [List.pairwise_iff_getElem] at hn ⊢
          have key : ∀ j (hj : j < (P.files.set i { f with last := bentAt f.last a.toNat y, seen := bentAt f.seen a.toNat y }).length) (hj2 : j < P.files.length), (P.files.set i { f with last := bentAt f.last a.toNat y, seen := bentAt f.seen a.toNat y })[j].name = P.files[j].name := fun j hj hj2 => by
            rw [List.getElem_set]
            split
            · next e => subst e; rw [hfe]
            · rfl
          intro x y2 hx hy hxy
          rw [key x hx (by simpa using hx), key y2 hy (by simpa using hy)]
          exact hn x y2 (by simpa using hx) (by simpa using hy) hxy
        · show (P.files.set i _).length ≤ n
          rw [List.length_set]; exact h.flen
        · intro g hg
          rcases List.mem_or_eq_of_mem_set hg with h1 | h1
          · exact h.small g h1
          · subst h1
            have := h.small f (List.mem_of_getElem? hf)
            exact ⟨by show (bentAt _ _ _).length ≤ _; rw [hb]; exact this.1, by show (bentAt _ _ _).length ≤ _; rw [hb]; exact this.2⟩
theorem own_spoil {B0 : Nat} {w0 w : World} {b k mb n : Nat} {P : PS} {Bk : List ByteArray} (h : Own B0 w0 b k mb P Bk n w) (hn : n ≤ 1000000000) (s : ByteArray) (a y : Int) :
    Calls Tryz.prog 14 #[.pointer (some ⟨b, 0, none⟩), .string s, .int .i64 a, .int .i64 y] w fun e w' => e = .returned (.int .i64 (P.spoil s a y).1) ∧ Own B0 w0 b k mb (P.spoil s a y).2 Bk n w' ∧ Kept b k mb Bk (fun _ => False) w w' :=
  own_dev (Q := fun e => e = .returned (.int .i64 (P.spoil s a y).1)) h (fun S hp hR => by
    subst hp
    exact spoil_any b n S s a y w hR.dev h.ok hn) (h.ok.spoil s a y)
theorem Run.spoil {w0 w : World} {b k mb wa lg n : Nat} {P : PS} {Bk al : List ByteArray} {L : LG} {av : Value} (h : Run w0 b k mb wa lg P Bk L n av al w) (hn : n ≤ 1000000000) (s : ByteArray) (a y : Int) :
    Calls Tryz.prog 14 #[.pointer (some ⟨b, 0, none⟩), .string s, .int .i64 a, .int .i64 y] w fun e w' => e = .returned (.int .i64 (P.spoil s a y).1) ∧ Run w0 b k mb wa lg (P.spoil s a y).2 Bk L n av al w' := by
  refine (own_spoil h.own hn s a y).mono ?_
  rintro e w' ⟨rfl, ho, hk⟩
  exact ⟨rfl, h.same ho hk⟩
theorem Run.open3 {w0 w : World} {b k mb wa lg n : Nat} {P : PS} {Bk al : List ByteArray} {L : LG} {av : Value} (h : Run w0 b k mb wa lg P Bk L n av al w) (hn : n ≤ 890000000) (hB : Bk.length ≤ 1000000000) {r : Int} {P2 : PS} {L2 : LG} {out : List ByteArray} (he : wopen P Bk = ⟨r, P2, L2, out⟩) :
    Calls Tryz.prog 15 #[.pointer (some ⟨b, 0, none⟩), .pointer (some ⟨k, 0, none⟩)] w fun e w' => ∃ pv, e = .returned (.tuple #[pv.1, pv.2, .int .i64 r]) ∧ ((r ≠ 0 ∧ pv = (.pointer none, .slice none 0 0)) ∨ (r = 0 ∧ ∃ lg2, pv.1 = .pointer (some ⟨lg2, 0, none⟩) ∧ w'.ownsRow w.heap.size 9 1 pv.2 out.length (strVals out))) ∧ Run w0 b k mb wa lg P2 Bk L (n + 2097152) av al w' := by
  refine (own_open h.own hn hB (h.own.ok.open Bk)).mono ?_
  rw [he]
  rintro e w' ⟨ho, hk, ⟨h0, rfl⟩ | ⟨h0, lg2, v, hlg, rfl, hl, hr⟩⟩
  · exact ⟨(.pointer none, .slice none 0 0), rfl, Or.inl ⟨h0, rfl⟩, h.same ho hk⟩
  · have h0' : r = 0 := h0
    subst h0'
    exact ⟨(.pointer (some ⟨lg2, 0, none⟩), v), rfl, Or.inr ⟨rfl, lg2, rfl, hr⟩, h.same ho hk⟩
theorem One.bent {P : PS} {n : Nat} {s : List UInt8} {most : Int} (h : One P n s most) (hw : P.wait = []) (hl : ∀ f ∈ P.files, f.last = f.seen) (a y : Int) : ∃ i v, One (P.spoil (wname n) a y).2 n (s.set i v) most := by
  obtain ⟨f, hf, hnm, hs⟩ := h.file
  have hsame : ∃ i v, One P n (s.set i v) most := ⟨s.length, 0, by rw [List.set_eq_of_length_le (Nat.le_refl _)]; exact h⟩
  have hlf := hl f (by rw [hf]; exact List.mem_cons.2 (Or.inl rfl))
  have e0 : P.files[0]? = some f := by rw [hf]; rfl
  unfold PS.spoil
  rw [h.find.1]
  show ∃ i v, One (match P.files[0]? with | none => _ | some f => _ : Int × PS).2 n (s.set i v) most
  rw [e0]
  dsimp only
  by_cases hr : a < 0 ∨ (f.last.length : Int) ≤ a
  · rw [if_pos hr]
    exact hsame
  · rw [if_neg hr]
    have hfs : P.files.set 0 { f with last := bentAt f.last a.toNat y, seen := bentAt f.seen a.toNat y } = [{ f with last := bentAt f.last a.toNat y, seen := bentAt f.seen a.toNat y }] := by rw [hf]; rfl
    have hb : bentAt f.seen a.toNat y = s.set a.toNat (s.getD a.toNat 0 ^^^ byteOf y) := by rw [hs]; rfl
    refine ⟨a.toNat, s.getD a.toNat 0 ^^^ byteOf y, ⟨?_, ?_, ?_, ?_⟩, ⟨_, hfs, hnm, hb⟩, h.off, h.fuse, h.most_, by rw [List.length_set]; exact h.room⟩
    · show (P.files.set 0 _).Pairwise _
      rw [hfs]
      exact List.pairwise_singleton _ _
    · intro g hg
      have hg' : g ∈ P.files.set 0 { f with last := bentAt f.last a.toNat y, seen := bentAt f.seen a.toNat y } := hg
      rw [hfs] at hg'
      rw [List.mem_singleton.1 hg']
      exact h.snd.idm f (by rw [hf]; exact List.mem_cons.2 (Or.inl rfl))
    · intro p hp
      have hp' : p ∈ P.wait := hp
      rw [hw] at hp'
      cases hp'
    · intro g hg
      have hg' : g ∈ P.files.set 0 { f with last := bentAt f.last a.toNat y, seen := bentAt f.seen a.toNat y } := hg
      rw [hfs] at hg'
      rw [List.mem_singleton.1 hg']
      show lastly P.wait f.id (bentAt f.last a.toNat y) = bentAt f.seen a.toNat y
      rw [hw, hlf]
      rfl
theorem One.wipe_ok {P : PS} {n e : Nat} {m : ByteArray} {s : List UInt8} {most : Int} (h : One P n s most) (he : e ≤ s.length) (hz : s.length ≤ 2097152) : (wwipe P ⟨n, e, m⟩).1 = 0 := by
  have hr := h.read (p := e) (k := s.length - e)
  have ek : ((s.length - e : Nat) : Int) = ((s.length : Nat) : Int) - ((e : Nat) : Int) := by omega
  rw [ek] at hr
  obtain ⟨h1, h2, h3⟩ := h.find
  have htl : (textOf ((s.drop e).take (s.length - e))).size = s.length - e := by rw [textOf_size, List.length_take, List.length_drop]; omega
  generalize textOf ((s.drop e).take (s.length - e)) = t at hr htl
  have hzs := zeros_size t.size
  unfold wwipe
  show (if (P.size (wname n)).2 ≠ 0 then _ else _ : Int × PS).1 = 0
  rw [h.size]
  show (if (P.read (wname n) (e : Int) (((s.length : Nat) : Int) - ((e : Nat) : Int))).2 ≠ 0 then _ else _ : Int × PS).1 = 0
  rw [hr]
  show (if allZero t = true then (0, P) else if (P.write (wname n) (e : Int) (zeros t.size)).1 ≠ 0 then P.write (wname n) (e : Int) (zeros t.size) else (P.write (wname n) (e : Int) (zeros t.size)).2.syncR : Int × PS).1 = 0
  by_cases ha : allZero t = true
  · rw [if_pos ha]
  · rw [if_neg ha]
    have key : ∃ P2, P.write (wname n) (e : Int) (zeros t.size) = (0, P2) ∧ P2.off = false := by
      by_cases h0 : t.size = 0
      · exact ⟨P, write_none h.off h1 (by rw [hzs, h0]) (by omega), h.off⟩
      · obtain ⟨hl, _⟩ := findI_lt h1
        have hle := h.snd.len (List.getElem_mem hl)
        have hs0 : P.files[0].seen = s := by rw [← seenAt_get hl]; exact h2
        have hsec : secsI P 0 = secs s.length := by
          unfold secsI
          rw [List.getElem?_eq_getElem hl]
          show secsP P.files[0] = _
          unfold secsP
          rw [Nat.max_eq_left hle, hs0]
        have hrm := h.room
        have hmo := h.most_
        rw [write_eq h.off h1 (by omega), hsec, h3, hzs, if_neg (fun hh => by
          have e1 : e + t.size = s.length := by omega
          have h5 := hh.2
          rw [e1] at h5
          omega), wrGo_all _ _ _ _ _ (by rw [hzs]; exact Nat.le_refl _) (by omega) (Or.inl h.fuse)]
        exact ⟨_, rfl, h.off⟩
    obtain ⟨P2, k1, k2⟩ := key
    rw [k1, if_neg (fun h => h rfl)]
    show (P2.syncR).1 = 0
    have e2 : P2.syncR = (0, P2.sync) := if_neg (by rw [k2]; decide)
    rw [e2]
/-- a log without a snapshot, of which one byte is changed: what is found begins the records, or there is no log -/
theorem One.open_bent {P : PS} {s : List UInt8} {most : Int} {i : Nat} {v : UInt8} (h : One P 1 (s.set i v) most) {B more : List ByteArray} {m : ByteArray} (hB : B.length ≤ 1000000000) (hc : Chn B 1 (logRecs [] more) s m) (hz : s.length ≤ 2097152) :
    ∃ r P2 L2 out, wopen P B = ⟨r, P2, L2, out⟩ ∧ ((r = 8 ∧ out = []) ∨ (r = 0 ∧ out <+: more)) := by
  have hno : ¬ (P.off = true) := by rw [h.off]; decide
  have hlen : (s.set i v).length = s.length := List.length_set
  have hsp := spoil_begins hB (logRecs [] more) ((s.set i v).length + 1) (firstM 1) i v hc.inB
  rw [← hc.bytes] at hsp
  generalize s.set i v = s2 at h hlen hsp
  have hld : loadP P B 1 = some (loadGo B (s2.length + 1) ⟨0, firstM 1, false, []⟩ s2) := by
    unfold loadP
    have hr := h.read (p := 0) (k := s2.length)
    have e0 : P.read (wname 1) 0 (P.size (wname 1)).1 = (textOf s2, 0) := by
      rw [h.size]
      show P.read (wname 1) ((0 : Nat) : Int) (s2.length : Nat) = _
      rw [hr, List.drop_zero, List.take_length]
    rw [e0, h.size, if_neg (fun h => h rfl), if_neg (fun h => h rfl)]
    show some (loadGo B ((textOf s2).size + 1) ⟨0, firstM 1, false, []⟩ (textOf s2).data.toList) = _
    rw [textOf_list, textOf_size]
  have hd := loadGo_dec (B := B) (s2.length + 1) ⟨0, firstM 1, false, []⟩ s2
  have hle := loadGo_le (B := B) (s2.length + 1) ⟨0, firstM 1, false, []⟩ s2 s2.length (by show 0 + _ ≤ _; omega) (by decide)
  generalize loadGo B (s2.length + 1) ⟨0, firstM 1, false, []⟩ s2 = o at hld hd hle
  have hd2 : (o.sealed, o.out) = dec (false, []) (readL B (s2.length + 1) (firstM 1) s2) := hd
  have hw : wopen P B = openGo [1] P B [1] := by
    unfold wopen
    rw [if_neg hno, h.segs (by decide)]
  rw [hw]
  rcases dec_begins hsp with e | ⟨out, e, hpre⟩
  · rw [e] at hd2
    injection hd2 with e1 e2
    rw [openGo_open hld e1]
    exact ⟨8, P, _, [], rfl, Or.inl ⟨rfl, rfl⟩⟩
  · rw [e] at hd2
    injection hd2 with e1 e2
    rw [openGo_take hld e1]
    have hrb : removeBut [1] 1 P = P := rfl
    unfold wtake
    rw [hrb]
    have hwp := h.wipe_ok (e := o.e) (m := o.m) hle.1 (by omega)
    rw [if_neg (fun hh => hh hwp), e2]
    exact ⟨0, _, _, out, rfl, Or.inr ⟨rfl, hpre⟩⟩
end Go.Proofs.YtkllnihhhgaojaaGreatDoor
