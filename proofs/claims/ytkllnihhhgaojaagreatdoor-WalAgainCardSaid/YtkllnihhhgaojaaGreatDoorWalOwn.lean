/- The device and the book that a statement makes, and its world: what a call leaves of them. Conditions: sizes. -/
import Derived.Test.YtkllnihhhgaojaaGreatDoorWalAt
namespace Go.Proofs.YtkllnihhhgaojaaGreatDoor
open Go Go.RowKit
set_option linter.unusedVariables false

/-- from block B0 on stand a device that is P and a book that has marked Bk; below B0 nothing has turned -/
structure Own (B0 : Nat) (w0 : World) (b k mb : Nat) (P : PS) (Bk : List ByteArray) (n : Nat) (w : World) : Prop where
  dev : ∃ S, S.pl = P ∧ Rg w b k mb S Bk ∧ ∀ j, foot b S j → B0 ≤ j
  ok : OkP n P
  bel : Below B0 w0 w
  sz : B0 ≤ w.heap.size
  hk : B0 ≤ k
  hm : B0 ≤ mb
/-- what a call leaves beside the pair -/
def Kept (b k mb : Nat) (Bk : List ByteArray) (X : Nat → Prop) (w w' : World) : Prop := ∃ S, Rg w b k mb S Bk ∧ Touch (fun j => foot b S j ∨ j = mb ∨ X j) w w'
def FarT (T : TypeId) : Prop := T ≠ 84 ∧ T ≠ 70 ∧ T ≠ 86 ∧ T ≠ 73 ∧ T ≠ 5
theorem Kept.blk {b k mb : Nat} {Bk : List ByteArray} {X : Nat → Prop} {w w' : World} (h : Kept b k mb Bk X w w') {g : Nat} {cs : List Value} {T : TypeId} (hb : Blk w g cs T) (hT : FarT T) (hX : ¬ X g) : Blk w' g cs T := by
  obtain ⟨S, hR, ht⟩ := h
  refine Blk.touch hb ht (fun hj => ?_)
  rcases hj with hj | hj | hj
  · exact foot_not hR.dev hb hT hj
  · exact hR.book.mb_ne hb hj
  · exact hX hj
theorem Kept.row {b k mb : Nat} {Bk : List ByteArray} {X : Nat → Prop} {w w' : World} (h : Kept b k mb Bk X w w') {base : Nat} {T : TypeId} {sz : Nat} {v : Value} {n : Nat} {xs : List Value} (hr : w.ownsRow base T sz v n xs) (hT : FarT T) (hX : ∀ g, v.ownBlock = some g → ¬ X g) : w'.ownsRow base T sz v n xs := by
  obtain ⟨S, hR, ht⟩ := h
  refine row_touch hr ht (fun g hg hj => ?_)
  obtain ⟨h1, h2⟩ := row_beside hR hr hT g hg
  rcases hj with hj | hj | hj
  · exact h1 hj
  · exact h2 hj
  · exact hX g hg hj
theorem Kept.size {b k mb : Nat} {Bk : List ByteArray} {X : Nat → Prop} {w w' : World} (h : Kept b k mb Bk X w w') : w.heap.size ≤ w'.heap.size := by
  obtain ⟨S, hR, ht⟩ := h
  exact ht.size
theorem Kept.none {b k mb : Nat} {Bk : List ByteArray} {X : Nat → Prop} {w w' : World} (h : Kept b k mb Bk (fun _ => False) w w') : Kept b k mb Bk X w w' := by
  obtain ⟨S, hR, ht⟩ := h
  exact ⟨S, hR, ht.mono (fun j _ hj => hj.imp id (fun hj => hj.imp id (fun h => h.elim)))⟩
theorem Own.next {B0 : Nat} {w0 w w' : World} {b k mb n m : Nat} {P P' : PS} {Bk Bk' : List ByteArray} (h : Own B0 w0 b k mb P Bk n w) {S S' : DSt} {X : Nat → Prop} (hf : ∀ j, foot b S j → B0 ≤ j) (hs : RStep X b k mb S Bk w S' Bk' w') (hp : S'.pl = P') (hX : ∀ j, X j → B0 ≤ j) (hok : OkP m P') : Own B0 w0 b k mb P' Bk' m w' :=
  ⟨⟨S', hp, hs.at_, fun j hj => by
    rcases hs.foot_ j hj with h1 | h1
    · exact hf j h1
    · have := h.sz; omega⟩, hok, h.bel.trans (hs.touch.below h.sz (fun j hj hh => by
      rcases hh with h1 | h1 | h1
      · have := hf j h1; omega
      · have := h.hm; omega
      · have := hX j h1; omega)), Nat.le_trans h.sz hs.size, h.hk, h.hm⟩
theorem Own.below {B0 : Nat} {w0 w w' : World} {b k mb n : Nat} {P : PS} {Bk : List ByteArray} (h : Own B0 w0 b k mb P Bk n w) (hb : Below w.heap.size w w') : Own B0 w0 b k mb P Bk n w' := by
  obtain ⟨S, hp, hR, hf⟩ := h.dev
  exact ⟨⟨S, hp, hR.below hb, hf⟩, h.ok, h.bel.trans (hb.mono h.sz), Nat.le_trans h.sz hb.size, h.hk, h.hm⟩
/-- other blocks of the call's own turned -/
theorem Own.also {B0 : Nat} {w0 w w' : World} {b k mb n : Nat} {P : PS} {Bk : List ByteArray} (h : Own B0 w0 b k mb P Bk n w) {T : Nat → Prop} (ht : Touch T w w') (hT : ∀ j, T j → B0 ≤ j) (h1 : ∀ S, Rg w b k mb S Bk → ∀ j, foot b S j → ¬ T j) (h2 : ¬ T k) (h3 : ¬ T mb) : Own B0 w0 b k mb P Bk n w' := by
  obtain ⟨S, hp, hR, hf⟩ := h.dev
  exact ⟨⟨S, hp, ⟨hR.dev.touch ht (h1 S hR), hR.book.touch ht h2 h3, hR.ne, hR.nk, hR.nm⟩, hf⟩, h.ok, h.bel.trans (ht.below h.sz (fun j hj hh => by have := hT j hh; omega)), Nat.le_trans h.sz ht.size, h.hk, h.hm⟩
theorem Own.mono {B0 : Nat} {w0 w : World} {b k mb n m : Nat} {P : PS} {Bk : List ByteArray} (h : Own B0 w0 b k mb P Bk n w) (hm : n ≤ m) : Own B0 w0 b k mb P Bk m w := ⟨h.dev, h.ok.mono hm, h.bel, h.sz, h.hk, h.hm⟩
theorem own_dev {B0 : Nat} {w0 w : World} {b k mb n m : Nat} {P P' : PS} {Bk : List ByteArray} {f : FuncId} {args : Array Value} {Q : Ending → Prop} (h : Own B0 w0 b k mb P Bk n w)
    (hc : ∀ S, S.pl = P → Rg w b k mb S Bk → Calls Tryz.prog f args w fun e w' => Q e ∧ ∃ S', Dev b S w S' w' ∧ S'.pl = P') (hok : OkP m P') :
    Calls Tryz.prog f args w fun e w' => Q e ∧ Own B0 w0 b k mb P' Bk m w' ∧ Kept b k mb Bk (fun _ => False) w w' := by
  obtain ⟨S, hp, hR, hf⟩ := h.dev
  refine (hc S hp hR).mono ?_
  rintro e w' ⟨hq, S', hd, hp'⟩
  have hs : RStep (fun _ => False) b k mb S Bk w S' Bk w' := hR.step hd
  exact ⟨hq, h.next hf hs hp' (fun _ h => h.elim) hok, S, hR, hs.touch⟩
theorem own_put {B0 : Nat} {w0 w : World} {b k mb lg n m : Nat} {P : PS} {Bk : List ByteArray} {f : FuncId} {args : Array Value} {R : WR} (h : Own B0 w0 b k mb P Bk n w) (hlb : B0 ≤ lg)
    (hc : ∀ S, S.pl = P → Rg w b k mb S Bk → (∀ j, foot b S j → B0 ≤ j) → Calls Tryz.prog f args w fun e w' => e = .returned (.int .i64 R.e) ∧ ∃ S', S'.pl = R.P ∧ RStep (fun j => j = lg) b k mb S Bk w S' R.B w' ∧ LogAt w' lg b k R.L) (hok : OkP m R.P) :
    Calls Tryz.prog f args w fun e w' => e = .returned (.int .i64 R.e) ∧ Own B0 w0 b k mb R.P R.B m w' ∧ LogAt w' lg b k R.L ∧ Kept b k mb Bk (fun j => j = lg) w w' := by
  obtain ⟨S, hp, hR, hf⟩ := h.dev
  refine (hc S hp hR hf).mono ?_
  rintro e w' ⟨hq, S', hp', hs, hl⟩
  exact ⟨hq, h.next hf hs hp' (fun j hj => by subst hj; exact hlb) hok, hl, S, hR, hs.touch⟩
theorem own_append {B0 : Nat} {w0 w : World} {b k mb lg n : Nat} {P : PS} {Bk : List ByteArray} {L : LG} (h : Own B0 w0 b k mb P Bk n w) (hlb : B0 ≤ lg) (hl : LogAt w lg b k L) (hL : L.Ok) (hn : n ≤ 900000000) (hB : Bk.length + 1 ≤ 1000000000) (s : ByteArray) :
    Calls Tryz.prog 11 #[.pointer (some ⟨lg, 0, none⟩), .string s] w fun e w' => e = .returned (.int .i64 (wappend P Bk L s).e) ∧ Own B0 w0 b k mb (wappend P Bk L s).P (wappend P Bk L s).B (n + 2097152) w' ∧ LogAt w' lg b k (wappend P Bk L s).L ∧ Kept b k mb Bk (fun j => j = lg) w w' :=
  own_put h hlb (fun S hp hR hf => by
    subst hp
    exact append_log b k mb lg n S Bk L s w hR hl hL h.ok hn hB) (h.ok.wput _ _ _ _)
theorem own_sync {B0 : Nat} {w0 w : World} {b k mb lg n : Nat} {P : PS} {Bk : List ByteArray} {L : LG} (h : Own B0 w0 b k mb P Bk n w) (hl : LogAt w lg b k L) (hn : n ≤ 1000000000) :
    Calls Tryz.prog 13 #[.pointer (some ⟨lg, 0, none⟩)] w fun e w' => e = .returned (.int .i64 P.syncR.1) ∧ Own B0 w0 b k mb P.syncR.2 Bk n w' ∧ Kept b k mb Bk (fun _ => False) w w' :=
  own_dev (Q := fun e => e = .returned (.int .i64 P.syncR.1)) h (fun S hp hR => by
    subst hp
    exact sync_log b k mb lg n S Bk L w hR hl h.ok hn) h.ok.syncR
theorem own_turn {B0 : Nat} {w0 w : World} {b k mb lg n : Nat} {P : PS} {Bk : List ByteArray} {L : LG} (h : Own B0 w0 b k mb P Bk n w) (hlb : B0 ≤ lg) (hl : LogAt w lg b k L) (hL : L.Ok) (hn : n ≤ 890000000) {ad : Option Addr} {cap : Nat} {snap : List ByteArray}
    (hs : StrsAt w ad snap) (hbs : ∀ S, Rg w b k mb S Bk → (∀ j, foot b S j → B0 ≤ j) → snap ≠ [] → Beside b mb S (fun _ => False) ad) (htl : snap.length ≤ 100000) (hB : Bk.length + snap.length + 1 ≤ 1000000000) :
    Calls Tryz.prog 19 #[.pointer (some ⟨lg, 0, none⟩), .slice ad snap.length cap] w fun e w' => e = .returned (.int .i64 (wturn P Bk L snap).e) ∧ Own B0 w0 b k mb (wturn P Bk L snap).P (wturn P Bk L snap).B (n + 1 + 2097152 + 2097152) w' ∧ LogAt w' lg b k (wturn P Bk L snap).L ∧ Kept b k mb Bk (fun j => j = lg) w w' :=
  own_put h hlb (fun S hp hR hf => by
    subst hp
    exact turn_any b k mb lg n S Bk L ad cap snap w hR hl hL h.ok hn hs (hbs S hR hf) htl hB) (by
    unfold wturn
    have hb := h.ok.begin Bk (L.n + 1) snap
    split
    · exact h.ok.mono (by omega)
    · split
      · exact hb
      · exact hb.remove _)
theorem own_open {B0 : Nat} {w0 w : World} {b k mb n : Nat} {P : PS} {Bk : List ByteArray} (h : Own B0 w0 b k mb P Bk n w) (hn : n ≤ 890000000) (hB : Bk.length ≤ 1000000000) (hok : OkP (n + 2097152) (wopen P Bk).P) :
    Calls Tryz.prog 15 #[.pointer (some ⟨b, 0, none⟩), .pointer (some ⟨k, 0, none⟩)] w fun e w' => Own B0 w0 b k mb (wopen P Bk).P Bk (n + 2097152) w' ∧ Kept b k mb Bk (fun _ => False) w w' ∧ (((wopen P Bk).e ≠ 0 ∧ e = .returned (.tuple #[.pointer none, .slice none 0 0, .int .i64 (wopen P Bk).e])) ∨ ((wopen P Bk).e = 0 ∧ ∃ lg v, w.heap.size ≤ lg ∧ e = .returned (.tuple #[.pointer (some ⟨lg, 0, none⟩), v, .int .i64 0]) ∧ LogAt w' lg b k (wopen P Bk).L ∧ w'.ownsRow w.heap.size 9 1 v (wopen P Bk).out.length (strVals (wopen P Bk).out))) := by
  obtain ⟨S, hp, hR, hf⟩ := h.dev
  subst hp
  refine (open_any b k mb n S Bk w hR h.ok hn hB).mono ?_
  rintro e w' ⟨S', hp', hs, hq⟩
  exact ⟨h.next hf hs hp' (fun _ h => h.elim) hok, ⟨S, hR, hs.touch⟩, hq⟩
theorem OkP.open {n : Nat} {P : PS} (h : OkP n P) (B : List ByteArray) : OkP (n + 2097152) (wopen P B).P := by
  unfold wopen
  split
  · exact h.mono (by omega)
  · generalize segsP P = all
    have key : ∀ r, OkP (n + 2097152) (openGo all P B r).P := by
      intro r
      induction r with
      | nil => exact h.mono (by omega)
      | cons m r ih =>
        cases hl : loadP P B m with
        | none => rw [openGo_none hl]; exact ih
        | some o =>
          cases hs : o.sealed with
          | false => rw [openGo_open hl hs]; exact ih
          | true =>
            rw [openGo_take hl hs]
            have hw := OkP.wipe (OkP.removeBut all m h) ⟨m, o.e, o.m⟩
            unfold wtake
            split
            · exact hw
            · exact hw
    exact key all
def wldVals (b k lg : Nat) (allv : Value) (safe : Int) (turned : Bool) (snapv : Value) : List Value := [.pointer (some ⟨b, 0, none⟩), .pointer (some ⟨k, 0, none⟩), .pointer (some ⟨lg, 0, none⟩), allv, .int .i64 safe, .bool turned, snapv]
def WAt (w : World) (wa b k lg : Nat) (allv : Value) (safe : Int) (turned : Bool) (snapv : Value) : Prop := Blk w wa (wldVals b k lg allv safe turned snapv) 30
theorem ideal_own (w : World) (B : Nat) (hB : B ≤ w.heap.size) : Calls Tryz.prog 33 #[] w fun e w' => ∃ k m, e = .returned (.pointer (some ⟨k, 0, none⟩)) ∧ w.heap.size ≤ k ∧ w.heap.size ≤ m ∧ k ≠ m ∧ BookIs w' k m [] ∧ Below w.heap.size w w' :=
  (ideal_book w).mono fun e w' ⟨k, m, he, h1, h2, h3, h4⟩ => ⟨k, m, he, h1, h2, h3.mb_ne h3.at_, h3, h4⟩
set_option maxRecDepth 100000 in
set_option maxHeartbeats 1000000 in
theorem laid_any (m : Int) (w : World) (h : 1 ≤ m ∧ m ≤ 32768) :
    Calls Tryz.prog 10 #[.int .i64 m] w fun e w' => ∃ wa b k mb lg, e = .returned (.pointer (some ⟨wa, 0, none⟩)) ∧ Own w.heap.size w b k mb (wformat (newP m) []).P (wformat (newP m) []).B 4194306 w' ∧ LogAt w' lg b k (wformat (newP m) []).L ∧ WAt w' wa b k lg (.slice none 0 0) 0 false (.slice none 0 0) ∧ w.heap.size ≤ lg ∧ w.heap.size ≤ wa := by
  obtain ⟨P, B, mk, s, he, hone, hchn, hlen, hBl, _⟩ := laid_one m h.1
  have hok : OkP 4194306 (wformat (newP m) []).P := by
    have h0 : OkP 0 (newP m) := ⟨List.Pairwise.nil, Nat.le_refl _, Nat.le_refl _, ⟨Int.le_refl _, Int.le_refl _⟩, ⟨Int.le_refl _, Int.le_refl _⟩, ⟨by show (0 : Int) ≤ m; omega, by show m ≤ 32768; omega⟩, by show (-1 : Int) ≤ _; omega, fun f hf => (by cases hf), fun p hp => (by cases hp)⟩
    exact (OkP.begin h0 [] 1 []).mono (by omega)
  have hokn : OkP 0 (newP m) := ⟨List.Pairwise.nil, Nat.le_refl _, Nat.le_refl _, ⟨Int.le_refl _, Int.le_refl _⟩, ⟨Int.le_refl _, Int.le_refl _⟩, ⟨by show (0 : Int) ≤ m; omega, by show m ≤ 32768; omega⟩, by show (-1 : Int) ≤ _; omega, fun f hf => (by cases hf), fun p hp => (by cases hp)⟩
  have hre : (wformat (newP m) []).e = 0 := by rw [he]
  generalize hR : wformat (newP m) [] = R at hok hre ⊢
  have HD := Lib.hid (newDisk_any m w (by omega))
  have HI := Lib.hid (fun W => ideal_own W 0 (Nat.zero_le _))
  have HF := Lib.hid (fun (b k mb : Nat) (S : DSt) W (hr : Rg W b k mb S []) (hp : S.pl = newP m) => (show Calls Tryz.prog 29 #[.pointer (some ⟨b, 0, none⟩), .pointer (some ⟨k, 0, none⟩)] W (Begun b k mb S [] W R) from by
    have := format_any b k mb 0 S [] W hr (by rw [hp]; exact hokn) (by omega) (by decide)
    rw [hp, hR] at this
    exact this))
  clear hokn hR he hone hchn hlen hBl
  go_enter Tryz.func10, Tryz.ntmps10
  go_wp2_with fail
  refine HD.out.mono ?_
  rintro e w1 ⟨b, rfl, rfl, hD, hB1⟩
  have HD1 := Lib.hid hD
  have HB1 := Lib.hid hB1
  clear hD hB1 HD
  go_wp2_with fail
  refine (HI.out _).mono ?_
  rintro e w2 ⟨k, mb, rfl, hk, hm, hkm, hbk, hB2⟩
  have HRg := Lib.hid (show Rg w2 w.heap.size k mb _ [] from ⟨HD1.out.below hB2, hbk, hkm, fun hf => by have := foot_lt HD1.out hf; omega, fun hf => by have := foot_lt HD1.out hf; omega⟩)
  have HB2 := Lib.hid (below_step HB1.out hB2)
  have HK := Lib.hid (And.intro (Nat.le_trans HB1.out.size hk) (Nat.le_trans HB1.out.size hm))
  have HFt := Lib.hid (fun j (hj : foot w.heap.size ⟨.slice none 0 0, .slice none 0 0, [], [], m, -1, false, 0, 0⟩ j) => show w.heap.size ≤ j from (by
    rcases hj with rfl | hk | hk | ⟨f, hf, _⟩
    · exact Nat.le_refl _
    · cases hk
    · cases hk
    · cases hf))
  clear hk hm hkm hbk hB2
  go_wp2_with fail
  refine (HF.out _ _ _ _ _ HRg.out rfl).mono ?_
  rintro e w3 ⟨S', hp, hs, ⟨h0, rfl⟩ | ⟨_, lg, hlg, rfl, hl⟩⟩
  · exact absurd hre h0
  · have HO : Hid (Own w.heap.size w w.heap.size k mb R.P R.B 4194306 w3 ∧ LogAt w3 lg w.heap.size k R.L ∧ w.heap.size ≤ lg) := Lib.hid (by
      have h0 : Own w.heap.size w w.heap.size k mb (newP m) [] 0 w2 := ⟨⟨_, rfl, HRg.out, HFt.out⟩, ⟨List.Pairwise.nil, Nat.le_refl _, Nat.le_refl _, ⟨Int.le_refl _, Int.le_refl _⟩, ⟨Int.le_refl _, Int.le_refl _⟩, ⟨by show (0 : Int) ≤ m; omega, by show m ≤ 32768; omega⟩, by show (-1 : Int) ≤ _; omega, fun f hf => (by cases hf), fun p hp => (by cases hp)⟩, HB2.out, HB2.out.size, HK.out.1, HK.out.2⟩
      exact ⟨h0.next HFt.out hs hp (fun _ h => h.elim) hok, hl, Nat.le_trans HB2.out.size hlg⟩)
    clear hp hs hlg hl HF HRg HB2 HB1 HD1 HFt HI
    go_wp2_with fail
    go_ret
    have hbw := (Below.refl _ w3).alloc (Nat.le_refl _) (.cells #[.pointer (some ⟨w.heap.size, 0, none⟩), .pointer (some ⟨k, 0, none⟩), .pointer (some ⟨lg, 0, none⟩), .slice none 0 0, .int .i64 0, .bool false, .slice none 0 0] 30)
    exact ⟨_, _, _, _, _, rfl, HO.out.1.below hbw, Blk.below HO.out.2.1 hbw, Blk.new w3 (wldVals w.heap.size k lg (.slice none 0 0) 0 false (.slice none 0 0)) _, HO.out.2.2, HO.out.1.sz⟩
end Go.Proofs.YtkllnihhhgaojaaGreatDoor
