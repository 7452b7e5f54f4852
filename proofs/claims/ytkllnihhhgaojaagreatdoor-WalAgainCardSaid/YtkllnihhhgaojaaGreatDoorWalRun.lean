/- A statement's world on a disk whose power does not fail: what each call leaves of it. Conditions: sizes. -/
import Derived.Test.YtkllnihhhgaojaaGreatDoorWalAwake
import Derived.Deep.AppendLies
namespace Go.Proofs.YtkllnihhhgaojaaGreatDoor
open Go Go.RowKit
set_option linter.unusedVariables false

/-- the statement's world in memory -/
structure Run (w0 : World) (b k mb wa lg : Nat) (P : PS) (Bk : List ByteArray) (L : LG) (n : Nat) (av : Value) (al : List ByteArray) (w : World) : Prop where
  own : Own w0.heap.size w0 b k mb P Bk n w
  log : LogAt w lg b k L
  wat : WAt w wa b k lg av 0 false (.slice none 0 0)
  lgb : w0.heap.size ≤ lg
  wab : w0.heap.size ≤ wa
  row : w.ownsRow w0.heap.size 9 1 av al.length (strVals al)
theorem Run.ne {w0 w : World} {b k mb wa lg n : Nat} {P : PS} {Bk al : List ByteArray} {L : LG} {av : Value} (h : Run w0 b k mb wa lg P Bk L n av al w) : lg ≠ wa := Blk.ne h.log h.wat (by decide)
theorem Run.next {w0 w w' : World} {b k mb wa lg n m : Nat} {P P' : PS} {Bk Bk' al : List ByteArray} {L L' : LG} {av : Value} (h : Run w0 b k mb wa lg P Bk L n av al w) (ho : Own w0.heap.size w0 b k mb P' Bk' m w') (hl : LogAt w' lg b k L') (hk : Kept b k mb Bk (fun j => j = lg) w w') : Run w0 b k mb wa lg P' Bk' L' m av al w' :=
  ⟨ho, hl, hk.blk h.wat (by unfold FarT; decide) (fun e => h.ne e.symm), h.lgb, h.wab, hk.row h.row (by unfold FarT; decide) (fun g hg e => row_ne h.row h.log (by decide) (by rw [hg, e]))⟩
theorem Run.same {w0 w w' : World} {b k mb wa lg n m : Nat} {P P' : PS} {Bk Bk' al : List ByteArray} {L : LG} {av : Value} (h : Run w0 b k mb wa lg P Bk L n av al w) (ho : Own w0.heap.size w0 b k mb P' Bk' m w') (hk : Kept b k mb Bk (fun _ => False) w w') : Run w0 b k mb wa lg P' Bk' L m av al w' :=
  h.next ho (hk.blk h.log (by unfold FarT; decide) (fun h => h)) hk.none
theorem Run.below {w0 w w' : World} {b k mb wa lg n : Nat} {P : PS} {Bk al : List ByteArray} {L : LG} {av : Value} (h : Run w0 b k mb wa lg P Bk L n av al w) (hb : Below w.heap.size w w') : Run w0 b k mb wa lg P Bk L n av al w' :=
  ⟨h.own.below hb, Blk.below h.log hb, Blk.below h.wat hb, h.lgb, h.wab, ownsRow_below h.row hb⟩
/-- a text put behind the records that the statement keeps -/
theorem Run.push {w0 w w1 w4 : World} {b k mb wa lg n g cap : Nat} {P : PS} {Bk al : List ByteArray} {L : LG} {av : Value} {c : ByteArray} (h : Run w0 b k mb wa lg P Bk L n av al w) (hb : Below w.heap.size w w1) (hg : w1.grownBy w4 av.ownBlock)
    (hr : w4.ownsRow w0.heap.size 9 1 (.slice (some ⟨g, 0, none⟩) (al.length + 1) cap) (al.length + 1) (strVals al ++ [.string c])) (hat : av.ownBlock = some g ∨ w.heap.size ≤ g) :
    Run w0 b k mb wa lg P Bk L n (.slice (some ⟨g, 0, none⟩) (al.length + 1) cap) (al ++ [c]) (w4.setCell ⟨wa, 3, none⟩ (.slice (some ⟨g, 0, none⟩) (al.length + 1) cap)) := by
  obtain ⟨S, hp, hR, hf⟩ := h.own.dev
  have hwl := h.wat.lt
  have ht : Touch (fun j => j = wa ∨ av.ownBlock = some j) w (w4.setCell ⟨wa, 3, none⟩ (.slice (some ⟨g, 0, none⟩) (al.length + 1) cap)) :=
    (touch_grown (S := fun j => j = wa ∨ av.ownBlock = some j) (Touch.of_below hb) hg (fun g hg => Or.inl (Or.inr hg))).set (p := ⟨wa, 3, none⟩) (Or.inl (Or.inl rfl)) _
  have hrw := row_ne h.row h.wat (by decide)
  have hgw : g ≠ wa := by
    rcases hat with e | e
    · intro e2; exact hrw (by rw [e, e2])
    · omega
  refine ⟨h.own.also ht ?_ ?_ ?_ ?_, Blk.touch h.log ht ?_, ?_, h.lgb, h.wab, ?_⟩
  · rintro j (rfl | hj)
    · exact h.wab
    · exact (h.row.lt j hj).1
  · rintro S2 hR2 j hfj (rfl | hj)
    · exact foot_not hR2.dev h.wat (by decide) hfj
    · exact (row_beside hR2 h.row (by decide) j hj).1 hfj
  · rintro (e | hj)
    · exact (Blk.ne h.wat hR.book.at_ (by decide)) e.symm
    · exact row_ne h.row hR.book.at_ (by decide) hj
  · rintro (e | hj)
    · exact hR.book.mb_ne h.wat e.symm
    · exact (row_beside hR h.row (by decide) _ hj).2 rfl
  · rintro (e | hj)
    · exact h.ne e
    · exact row_ne h.row h.log (by decide) hj
  · exact Blk.set (blk_grown (Blk.below h.wat hb) hg hrw) 3 _
  · have e : strVals (al ++ [c]) = strVals al ++ [.string c] := by unfold strVals; rw [List.map_append]; rfl
    rw [e, List.length_append]
    exact row_touch hr ((Touch.refl (fun k => k = wa) w4).set (p := ⟨wa, 3, none⟩) (Or.inl rfl) _) (fun g' hg' e => hgw (by
      have hgg : g = g' := by simpa [Value.ownBlock] using hg'
      rw [hgg, e]))
theorem Run.append {w0 w : World} {b k mb wa lg n : Nat} {P : PS} {Bk al : List ByteArray} {L : LG} {av : Value} (h : Run w0 b k mb wa lg P Bk L n av al w) (hL : L.Ok) (hn : n ≤ 900000000) (hB : Bk.length + 1 ≤ 1000000000) (s : ByteArray) :
    Calls Tryz.prog 11 #[.pointer (some ⟨lg, 0, none⟩), .string s] w fun e w' => e = .returned (.int .i64 (wappend P Bk L s).e) ∧ Run w0 b k mb wa lg (wappend P Bk L s).P (wappend P Bk L s).B (wappend P Bk L s).L (n + 2097152) av al w' := by
  refine (own_append h.own h.lgb h.log hL hn hB s).mono ?_
  rintro e w' ⟨rfl, ho, hl, hk⟩
  exact ⟨rfl, h.next ho hl hk⟩
theorem Run.sync {w0 w : World} {b k mb wa lg n : Nat} {P : PS} {Bk al : List ByteArray} {L : LG} {av : Value} (h : Run w0 b k mb wa lg P Bk L n av al w) (hn : n ≤ 1000000000) :
    Calls Tryz.prog 13 #[.pointer (some ⟨lg, 0, none⟩)] w fun e w' => e = .returned (.int .i64 P.syncR.1) ∧ Run w0 b k mb wa lg P.syncR.2 Bk L n av al w' := by
  refine (own_sync h.own h.log hn).mono ?_
  rintro e w' ⟨rfl, ho, hk⟩
  exact ⟨rfl, h.same ho hk⟩
theorem Run.size {w0 w : World} {b k mb wa lg n : Nat} {P : PS} {Bk al : List ByteArray} {L : LG} {av : Value} (h : Run w0 b k mb wa lg P Bk L n av al w) :
    Calls Tryz.prog 24 #[.pointer (some ⟨lg, 0, none⟩)] w fun e w' => e = .returned (.int .i64 L.e) ∧ w = w' := logSize_any lg b k L w h.log
theorem Run.segment {w0 w : World} {b k mb wa lg n : Nat} {P : PS} {Bk al : List ByteArray} {L : LG} {av : Value} (h : Run w0 b k mb wa lg P Bk L n av al w) :
    Calls Tryz.prog 23 #[.pointer (some ⟨lg, 0, none⟩)] w fun e w' => e = .returned (.int .i64 L.n) ∧ w = w' := logSegment_any lg b k L w h.log
theorem Run.writes {w0 w : World} {b k mb wa lg n : Nat} {P : PS} {Bk al : List ByteArray} {L : LG} {av : Value} (h : Run w0 b k mb wa lg P Bk L n av al w) :
    Calls Tryz.prog 31 #[.pointer (some ⟨b, 0, none⟩)] w fun e w' => e = .returned (.int .i64 P.count) ∧ w = w' := by
  obtain ⟨S, hp, hR, hf⟩ := h.own.dev
  subst hp
  exact writes_any b S w hR.dev
theorem Run.turn {w0 w : World} {b k mb wa lg n : Nat} {P : PS} {Bk al : List ByteArray} {L : LG} {av : Value} (h : Run w0 b k mb wa lg P Bk L n av al w) (hL : L.Ok) (hn : n ≤ 890000000) {g off cap : Nat} {snap : List ByteArray} {T : TypeId} {cs : List Value} (hs : StrsAt w (some ⟨g, off, none⟩) snap) (hg : Blk w g cs 9) (htl : snap.length ≤ 100000) (hB : Bk.length + snap.length + 1 ≤ 1000000000) :
    Calls Tryz.prog 19 #[.pointer (some ⟨lg, 0, none⟩), .slice (some ⟨g, off, none⟩) snap.length cap] w fun e w' => e = .returned (.int .i64 (wturn P Bk L snap).e) ∧ Run w0 b k mb wa lg (wturn P Bk L snap).P (wturn P Bk L snap).B (wturn P Bk L snap).L (n + 4194305) av al w' := by
  refine (own_turn h.own h.lgb h.log hL hn hs (fun S hR hf _ g' off' e => ?_) htl hB).mono ?_
  · injection e with e
    injection e with e _ _
    subst e
    exact ⟨foot_not hR.dev hg (by decide), hR.book.mb_ne hg, fun h => h⟩
  · rintro e w' ⟨rfl, ho, hl, hk⟩
    exact ⟨rfl, h.next (ho.mono (by omega)) hl hk⟩
theorem Run.open {w0 w : World} {b k mb wa lg n : Nat} {P : PS} {Bk al : List ByteArray} {L : LG} {av : Value} (h : Run w0 b k mb wa lg P Bk L n av al w) (hn : n ≤ 890000000) (hB : Bk.length ≤ 1000000000) {L2 : LG} {out : List ByteArray} (he : wopen P Bk = ⟨0, P, L2, out⟩) :
    Calls Tryz.prog 15 #[.pointer (some ⟨b, 0, none⟩), .pointer (some ⟨k, 0, none⟩)] w fun e w' => ∃ lg2 v, e = .returned (.tuple #[.pointer (some ⟨lg2, 0, none⟩), v, .int .i64 0]) ∧ LogAt w' lg2 b k L2 ∧ w'.ownsRow w.heap.size 9 1 v out.length (strVals out) ∧ Run w0 b k mb wa lg P Bk L (n + 2097152) av al w' := by
  refine (own_open h.own hn hB (h.own.ok.open Bk)).mono ?_
  rw [he]
  rintro e w' ⟨ho, hk, ⟨h0, _⟩ | ⟨_, lg2, v, hlg, rfl, hl, hr⟩⟩
  · exact absurd rfl h0
  · exact ⟨lg2, v, rfl, hl, hr, h.same ho hk⟩
/-- the log has just these records, on a disk whose power does not fail -/
def Run1 (w0 : World) (b k mb wa lg : Nat) (most : Int) (seg : Nat) (snap more : List ByteArray) (z j : Nat) (av : Value) (al : List ByteArray) (w : World) : Prop :=
  ∃ P Bk s mk n, Run w0 b k mb wa lg P Bk ⟨seg, s.length, mk⟩ n av al w ∧ One P seg s most ∧ Chn Bk seg (logRecs snap more) s mk ∧ LG.Ok ⟨seg, s.length, mk⟩ ∧ s.length ≤ z ∧ Bk.length ≤ j ∧ n ≤ 4194306 + j * 4194305
theorem Run1.below {w0 w w' : World} {b k mb wa lg seg z j : Nat} {most : Int} {snap more al : List ByteArray} {av : Value} (h : Run1 w0 b k mb wa lg most seg snap more z j av al w) (hb : Below w.heap.size w w') : Run1 w0 b k mb wa lg most seg snap more z j av al w' := by
  obtain ⟨P, Bk, s, mk, n, h1, h2⟩ := h
  exact ⟨P, Bk, s, mk, n, h1.below hb, h2⟩
theorem Run1.cells {w0 w : World} {b k mb wa lg seg z j : Nat} {most : Int} {snap more al : List ByteArray} {av : Value} (h : Run1 w0 b k mb wa lg most seg snap more z j av al w) : WAt w wa b k lg av 0 false (.slice none 0 0) := by
  obtain ⟨P, Bk, s, mk, n, h1, h2⟩ := h
  exact h1.wat
theorem Run1.bel {w0 w : World} {b k mb wa lg seg z j : Nat} {most : Int} {snap more al : List ByteArray} {av : Value} (h : Run1 w0 b k mb wa lg most seg snap more z j av al w) : Below w0.heap.size w0 w := by
  obtain ⟨P, Bk, s, mk, n, h1, h2⟩ := h
  exact h1.own.bel
theorem Run1.row {w0 w : World} {b k mb wa lg seg z j : Nat} {most : Int} {snap more al : List ByteArray} {av : Value} (h : Run1 w0 b k mb wa lg most seg snap more z j av al w) : w.ownsRow w0.heap.size 9 1 av al.length (strVals al) := by
  obtain ⟨P, Bk, s, mk, n, h1, h2⟩ := h
  exact h1.row
theorem Run1.push {w0 w w1 w4 : World} {b k mb wa lg seg z j g cap : Nat} {most : Int} {snap more al : List ByteArray} {av : Value} {c : ByteArray} (h : Run1 w0 b k mb wa lg most seg snap more z j av al w) (hb : Below w.heap.size w w1) (hg : w1.grownBy w4 av.ownBlock)
    (hr : w4.ownsRow w0.heap.size 9 1 (.slice (some ⟨g, 0, none⟩) (al.length + 1) cap) (al.length + 1) (strVals al ++ [.string c])) (hat : av.ownBlock = some g ∨ w.heap.size ≤ g) :
    Run1 w0 b k mb wa lg most seg snap more z j (.slice (some ⟨g, 0, none⟩) (al.length + 1) cap) (al ++ [c]) (w4.setCell ⟨wa, 3, none⟩ (.slice (some ⟨g, 0, none⟩) (al.length + 1) cap)) := by
  obtain ⟨P, Bk, s, mk, n, h1, h2⟩ := h
  exact ⟨P, Bk, s, mk, n, h1.push hb hg hr hat, h2⟩
theorem Run1.append {w0 w : World} {b k mb wa lg seg z j : Nat} {most : Int} {snap more al : List ByteArray} {av : Value} (h : Run1 w0 b k mb wa lg most seg snap more z j av al w) {t : ByteArray} (ht : t.size ≤ 1048832) (hz : z + (t.size + 37) ≤ 2097152) (hj : j ≤ 100) :
    Calls Tryz.prog 11 #[.pointer (some ⟨lg, 0, none⟩), .string t] w fun e w' => (e = .returned (.int .i64 0) ∧ Run1 w0 b k mb wa lg most seg snap (more ++ [t]) (z + (t.size + 37)) (j + 1) av al w') ∨ (e = .returned (.int .i64 7) ∧ Run1 w0 b k mb wa lg most seg snap more (z + (t.size + 37)) (j + 1) av al w') := by
  obtain ⟨P, Bk, s, mk, n, h1, h2, h3, h4, h5, h6, h7⟩ := h
  obtain ⟨B', hg, hl, hc⟩ := h2.append h3 ht (by omega)
  have hok := wput_L (P := P) (B := Bk) h4 82 [t]
  refine (h1.append h4 (by omega) (by omega) t).mono ?_
  rintro e w' ⟨rfl, h8⟩
  rcases hc with ⟨_, P', s', m', e1, e2, e3, e4⟩ | ⟨_, e1, e2⟩
  · left
    have hok' : LG.Ok (wappend P Bk ⟨seg, s.length, mk⟩ t).L := hok
    rw [e1] at h8 hok' ⊢
    rw [logRecs_snoc] at e3
    exact ⟨rfl, P', B', s', m', _, h8, e2, e3, hok', by omega, by omega, by omega⟩
  · right
    rw [e1] at h8 ⊢
    exact ⟨rfl, P, B', s, mk, _, h8, h2, e2, h4, by omega, by omega, by omega⟩
theorem laid_run (m : Int) (w : World) (h : 1 ≤ m ∧ m ≤ 32768) :
    Calls Tryz.prog 10 #[.int .i64 m] w fun e w' => ∃ wa b k mb lg, e = .returned (.pointer (some ⟨wa, 0, none⟩)) ∧ Run1 w b k mb wa lg m 1 [] [] 37 1 (.slice none 0 0) [] w' := by
  obtain ⟨P, B, mk, s, he, hone, hchn, hlen, hBl, _⟩ := laid_one m h.1
  have hok := wformat_L (newP m) []
  refine (laid_any m w h).mono ?_
  rintro e w' ⟨wa, b, k, mb, lg, rfl, ho, hl, hw, h1, h2⟩
  rw [he] at ho hl hok
  exact ⟨wa, b, k, mb, lg, rfl, P, B, s, mk, _, ⟨ho, hl, hw, h1, h2, World.ownsRow_nil _ _ _ _⟩, hone, hchn, hok, by omega, hBl, by omega⟩
end Go.Proofs.YtkllnihhhgaojaaGreatDoor
