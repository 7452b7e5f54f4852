/- A vault made on a disk, or refused. Conditions: sizes. -/
import Derived.Test.YtaeklleogniimaaGreatDoorWalOpen
import Derived.Test.YtaeklleogniimaaGreatDoorCuts
import Derived.Test.YtaeklleogniimaaGreatDoorProg
import Derived.Test.YtaeklleogniimaaGreatDoorHeap
import Derived.Test.YtaeklleogniimaaGreatDoorKit2
namespace Go.Proofs.YtaeklleogniimaaGreatDoor
open Go Go.RowKit
set_option linter.unusedVariables false

/-- from block B0 on stand a device that is P and a book that has marked Bk; below B0 nothing has turned -/
structure Own (B0 : Nat) (w0 : World) (b k mb : Nat) (P : PS) (Bk : List ByteArray) (n : Nat) (w : World) : Prop where
  dev : ∃ S, S.pl = P ∧ Rg w b k mb S Bk ∧ ∀ j, foot b S j → B0 ≤ j
  ok : OkP n P
  bel : Below B0 w0 w
  sz : B0 ≤ w.heap.size
  hk : B0 ≤ k
  hm : B0 ≤ mb
/-- what a call leaves beside the pair -/
def Kept (b k mb : Nat) (Bk : List ByteArray) (X : Nat → Prop) (w w' : World) : Prop := ∃ S, Rg w b k mb S Bk ∧ Touch (fun j => foot b S j ∨ j = mb ∨ X j) w w'
def FarT (T : TypeId) : Prop := T ≠ 79 ∧ T ≠ 133 ∧ T ≠ 198 ∧ T ≠ 136 ∧ T ≠ 5
theorem Kept.blk {b k mb : Nat} {Bk : List ByteArray} {X : Nat → Prop} {w w' : World} (h : Kept b k mb Bk X w w') {g : Nat} {cs : List Value} {T : TypeId} (hb : Blk w g cs T) (hT : FarT T) (hX : ¬ X g) : Blk w' g cs T := by
  obtain ⟨S, hR, ht⟩ := h
  refine Blk.touch hb ht (fun hj => ?_)
  rcases hj with hj | hj | hj
  · exact foot_not hR.dev hb hT hj
  · exact hR.book.mb_ne hb hj
  · exact hX hj
theorem Kept.row {b k mb : Nat} {Bk : List ByteArray} {X : Nat → Prop} {w w' : World} (h : Kept b k mb Bk X w w') {base : Nat} {T : TypeId} {sz : Nat} {v : Value} {n : Nat} {xs : List Value} (hr : w.ownsRow base T sz v n xs) (hT : FarT T) (hX : ∀ g, v.ownBlock = some g → ¬ X g) : w'.ownsRow base T sz v n xs := by
  obtain ⟨S, hR, ht⟩ := h
  refine row_touch hr ht (fun g hg hj => ?_)
  obtain ⟨h1, h2⟩ := row_beside hR hr hT g hg
  rcases hj with hj | hj | hj
  · exact h1 hj
  · exact h2 hj
  · exact hX g hg hj
theorem Kept.size {b k mb : Nat} {Bk : List ByteArray} {X : Nat → Prop} {w w' : World} (h : Kept b k mb Bk X w w') : w.heap.size ≤ w'.heap.size := by
  obtain ⟨S, hR, ht⟩ := h
  exact ht.size
theorem Kept.none {b k mb : Nat} {Bk : List ByteArray} {X : Nat → Prop} {w w' : World} (h : Kept b k mb Bk (fun _ => False) w w') : Kept b k mb Bk X w w' := by
  obtain ⟨S, hR, ht⟩ := h
  exact ⟨S, hR, ht.mono (fun j _ hj => hj.imp id (fun hj => hj.imp id (fun h => h.elim)))⟩
theorem Own.next {B0 : Nat} {w0 w w' : World} {b k mb n m : Nat} {P P' : PS} {Bk Bk' : List ByteArray} (h : Own B0 w0 b k mb P Bk n w) {S S' : DSt} {X : Nat → Prop} (hf : ∀ j, foot b S j → B0 ≤ j) (hs : RStep X b k mb S Bk w S' Bk' w') (hp : S'.pl = P') (hX : ∀ j, X j → B0 ≤ j) (hok : OkP m P') : Own B0 w0 b k mb P' Bk' m w' :=
  ⟨⟨S', hp, hs.at_, fun j hj => by
    rcases hs.foot_ j hj with h1 | h1
    · exact hf j h1
    · have := h.sz; omega⟩, hok, h.bel.trans (hs.touch.below h.sz (fun j hj hh => by
      rcases hh with h1 | h1 | h1
      · have := hf j h1; omega
      · have := h.hm; omega
      · have := hX j h1; omega)), Nat.le_trans h.sz hs.size, h.hk, h.hm⟩
theorem Own.below {B0 : Nat} {w0 w w' : World} {b k mb n : Nat} {P : PS} {Bk : List ByteArray} (h : Own B0 w0 b k mb P Bk n w) (hb : Below w.heap.size w w') : Own B0 w0 b k mb P Bk n w' := by
  obtain ⟨S, hp, hR, hf⟩ := h.dev
  exact ⟨⟨S, hp, hR.below hb, hf⟩, h.ok, h.bel.trans (hb.mono h.sz), Nat.le_trans h.sz hb.size, h.hk, h.hm⟩
/-- other blocks of the call's own turned -/
theorem Own.also {B0 : Nat} {w0 w w' : World} {b k mb n : Nat} {P : PS} {Bk : List ByteArray} (h : Own B0 w0 b k mb P Bk n w) {T : Nat → Prop} (ht : Touch T w w') (hT : ∀ j, T j → B0 ≤ j) (h1 : ∀ S, Rg w b k mb S Bk → ∀ j, foot b S j → ¬ T j) (h2 : ¬ T k) (h3 : ¬ T mb) : Own B0 w0 b k mb P Bk n w' := by
  obtain ⟨S, hp, hR, hf⟩ := h.dev
  exact ⟨⟨S, hp, ⟨hR.dev.touch ht (h1 S hR), hR.book.touch ht h2 h3, hR.ne, hR.nk, hR.nm⟩, hf⟩, h.ok, h.bel.trans (ht.below h.sz (fun j hj hh => by have := hT j hh; omega)), Nat.le_trans h.sz ht.size, h.hk, h.hm⟩
theorem Own.mono {B0 : Nat} {w0 w : World} {b k mb n m : Nat} {P : PS} {Bk : List ByteArray} (h : Own B0 w0 b k mb P Bk n w) (hm : n ≤ m) : Own B0 w0 b k mb P Bk m w := ⟨h.dev, h.ok.mono hm, h.bel, h.sz, h.hk, h.hm⟩
theorem own_dev {B0 : Nat} {w0 w : World} {b k mb n m : Nat} {P P' : PS} {Bk : List ByteArray} {f : FuncId} {args : Array Value} {Q : Ending → Prop} (h : Own B0 w0 b k mb P Bk n w)
    (hc : ∀ S, S.pl = P → Rg w b k mb S Bk → Calls Tryz.prog f args w fun e w' => Q e ∧ ∃ S', Dev b S w S' w' ∧ S'.pl = P') (hok : OkP m P') :
    Calls Tryz.prog f args w fun e w' => Q e ∧ Own B0 w0 b k mb P' Bk m w' ∧ Kept b k mb Bk (fun _ => False) w w' := by
  obtain ⟨S, hp, hR, hf⟩ := h.dev
  refine (hc S hp hR).mono ?_
  rintro e w' ⟨hq, S', hd, hp'⟩
  have hs : RStep (fun _ => False) b k mb S Bk w S' Bk w' := hR.step hd
  exact ⟨hq, h.next hf hs hp' (fun _ h => h.elim) hok, S, hR, hs.touch⟩
theorem own_put {B0 : Nat} {w0 w : World} {b k mb lg n m : Nat} {P : PS} {Bk : List ByteArray} {f : FuncId} {args : Array Value} {R : WR} (h : Own B0 w0 b k mb P Bk n w) (hlb : B0 ≤ lg)
    (hc : ∀ S, S.pl = P → Rg w b k mb S Bk → (∀ j, foot b S j → B0 ≤ j) → Calls Tryz.prog f args w fun e w' => e = .returned (.int .i64 R.e) ∧ ∃ S', S'.pl = R.P ∧ RStep (fun j => j = lg) b k mb S Bk w S' R.B w' ∧ LogAt w' lg b k R.L) (hok : OkP m R.P) :
    Calls Tryz.prog f args w fun e w' => e = .returned (.int .i64 R.e) ∧ Own B0 w0 b k mb R.P R.B m w' ∧ LogAt w' lg b k R.L ∧ Kept b k mb Bk (fun j => j = lg) w w' := by
  obtain ⟨S, hp, hR, hf⟩ := h.dev
  refine (hc S hp hR hf).mono ?_
  rintro e w' ⟨hq, S', hp', hs, hl⟩
  exact ⟨hq, h.next hf hs hp' (fun j hj => by subst hj; exact hlb) hok, hl, S, hR, hs.touch⟩
theorem own_append {B0 : Nat} {w0 w : World} {b k mb lg n : Nat} {P : PS} {Bk : List ByteArray} {L : LG} (h : Own B0 w0 b k mb P Bk n w) (hlb : B0 ≤ lg) (hl : LogAt w lg b k L) (hL : L.Ok) (hn : n ≤ 900000000) (hB : Bk.length + 1 ≤ 1000000000) (s : ByteArray) :
    Calls Tryz.prog 170 #[.pointer (some ⟨lg, 0, none⟩), .string s] w fun e w' => e = .returned (.int .i64 (wappend P Bk L s).e) ∧ Own B0 w0 b k mb (wappend P Bk L s).P (wappend P Bk L s).B (n + 2097152) w' ∧ LogAt w' lg b k (wappend P Bk L s).L ∧ Kept b k mb Bk (fun j => j = lg) w w' :=
  own_put h hlb (fun S hp hR hf => by
    subst hp
    exact append_log b k mb lg n S Bk L s w hR hl hL h.ok hn hB) (h.ok.wput _ _ _ _)
theorem own_sync {B0 : Nat} {w0 w : World} {b k mb lg n : Nat} {P : PS} {Bk : List ByteArray} {L : LG} (h : Own B0 w0 b k mb P Bk n w) (hl : LogAt w lg b k L) (hn : n ≤ 1000000000) :
    Calls Tryz.prog 174 #[.pointer (some ⟨lg, 0, none⟩)] w fun e w' => e = .returned (.int .i64 P.syncR.1) ∧ Own B0 w0 b k mb P.syncR.2 Bk n w' ∧ Kept b k mb Bk (fun _ => False) w w' :=
  own_dev (Q := fun e => e = .returned (.int .i64 P.syncR.1)) h (fun S hp hR => by
    subst hp
    exact sync_log b k mb lg n S Bk L w hR hl h.ok hn) h.ok.syncR
theorem own_turn {B0 : Nat} {w0 w : World} {b k mb lg n : Nat} {P : PS} {Bk : List ByteArray} {L : LG} (h : Own B0 w0 b k mb P Bk n w) (hlb : B0 ≤ lg) (hl : LogAt w lg b k L) (hL : L.Ok) (hn : n ≤ 890000000) {ad : Option Addr} {cap : Nat} {snap : List ByteArray}
    (hs : StrsAt w ad snap) (hbs : ∀ S, Rg w b k mb S Bk → (∀ j, foot b S j → B0 ≤ j) → snap ≠ [] → Beside b mb S (fun _ => False) ad) (htl : snap.length ≤ 100000) (hB : Bk.length + snap.length + 1 ≤ 1000000000) :
    Calls Tryz.prog 172 #[.pointer (some ⟨lg, 0, none⟩), .slice ad snap.length cap] w fun e w' => e = .returned (.int .i64 (wturn P Bk L snap).e) ∧ Own B0 w0 b k mb (wturn P Bk L snap).P (wturn P Bk L snap).B (n + 1 + 2097152 + 2097152) w' ∧ LogAt w' lg b k (wturn P Bk L snap).L ∧ Kept b k mb Bk (fun j => j = lg) w w' :=
  own_put h hlb (fun S hp hR hf => by
    subst hp
    exact turn_any b k mb lg n S Bk L ad cap snap w hR hl hL h.ok hn hs (hbs S hR hf) htl hB) (by
    unfold wturn
    have hb := h.ok.begin Bk (L.n + 1) snap
    split
    · exact h.ok.mono (by omega)
    · split
      · exact hb
      · exact hb.remove _)
theorem own_open {B0 : Nat} {w0 w : World} {b k mb n : Nat} {P : PS} {Bk : List ByteArray} (h : Own B0 w0 b k mb P Bk n w) (hn : n ≤ 890000000) (hB : Bk.length ≤ 1000000000) (hok : OkP (n + 2097152) (wopen P Bk).P) :
    Calls Tryz.prog 34 #[.pointer (some ⟨b, 0, none⟩), .pointer (some ⟨k, 0, none⟩)] w fun e w' => Own B0 w0 b k mb (wopen P Bk).P Bk (n + 2097152) w' ∧ Kept b k mb Bk (fun _ => False) w w' ∧ (((wopen P Bk).e ≠ 0 ∧ e = .returned (.tuple #[.pointer none, .slice none 0 0, .int .i64 (wopen P Bk).e])) ∨ ((wopen P Bk).e = 0 ∧ ∃ lg v, w.heap.size ≤ lg ∧ e = .returned (.tuple #[.pointer (some ⟨lg, 0, none⟩), v, .int .i64 0]) ∧ LogAt w' lg b k (wopen P Bk).L ∧ w'.ownsRow w.heap.size 9 1 v (wopen P Bk).out.length (strVals (wopen P Bk).out))) := by
  obtain ⟨S, hp, hR, hf⟩ := h.dev
  subst hp
  refine (open_any b k mb n S Bk w hR h.ok hn hB).mono ?_
  rintro e w' ⟨S', hp', hs, hq⟩
  exact ⟨h.next hf hs hp' (fun _ h => h.elim) hok, ⟨S, hR, hs.touch⟩, hq⟩
theorem OkP.open {n : Nat} {P : PS} (h : OkP n P) (B : List ByteArray) : OkP (n + 2097152) (wopen P B).P := by
  unfold wopen
  split
  · exact h.mono (by omega)
  · generalize segsP P = all
    have key : ∀ r, OkP (n + 2097152) (openGo all P B r).P := by
      intro r
      induction r with
      | nil => exact h.mono (by omega)
      | cons m r ih =>
        cases hl : loadP P B m with
        | none => rw [openGo_none hl]; exact ih
        | some o =>
          cases hs : o.sealed with
          | false => rw [openGo_open hl hs]; exact ih
          | true =>
            rw [openGo_take hl hs]
            have hw := OkP.wipe (OkP.removeBut all m h) ⟨m, o.e, o.m⟩
            unfold wtake
            split
            · exact hw
            · exact hw
    exact key all
theorem ideal_own (w : World) (B : Nat) (hB : B ≤ w.heap.size) : Calls Tryz.prog 11 #[] w fun e w' => ∃ k m, e = .returned (.pointer (some ⟨k, 0, none⟩)) ∧ w.heap.size ≤ k ∧ w.heap.size ≤ m ∧ k ≠ m ∧ BookIs w' k m [] ∧ Below w.heap.size w w' :=
  (ideal_book w).mono fun e w' ⟨k, m, he, h1, h2, h3, h4⟩ => ⟨k, m, he, h1, h2, h3.mb_ne h3.at_, h3, h4⟩
theorem okp_new (m : Int) (h : 0 ≤ m ∧ m ≤ 32768) : OkP 0 (newP m) := ⟨List.Pairwise.nil, Nat.le_refl _, Nat.le_refl _, ⟨Int.le_refl _, Int.le_refl _⟩, ⟨Int.le_refl _, Int.le_refl _⟩, h, by show (-1 : Int) ≤ _; omega, fun f hf => (by cases hf), fun p hp => (by cases hp)⟩
theorem Own.start {w w1 w2 : World} {m : Int} {k mb : Nat} (hm0 : 0 ≤ m ∧ m ≤ 32768) (hD : DiskAt w1 w.heap.size ⟨.slice none 0 0, .slice none 0 0, [], [], m, -1, false, 0, 0⟩) (hB1 : Below w.heap.size w w1) (hk : w1.heap.size ≤ k) (hm : w1.heap.size ≤ mb) (hkm : k ≠ mb) (hbk : BookIs w2 k mb []) (hB2 : Below w1.heap.size w1 w2) : Own w.heap.size w w.heap.size k mb (newP m) [] 0 w2 := by
  have hb := below_step hB1 hB2
  refine ⟨⟨_, rfl, ⟨hD.below hB2, hbk, hkm, fun hf => by have := foot_lt hD hf; omega, fun hf => by have := foot_lt hD hf; omega⟩, fun j hj => ?_⟩, okp_new m hm0, hb, hb.size, Nat.le_trans hB1.size hk, Nat.le_trans hB1.size hm⟩
  rcases hj with rfl | hk | hk | ⟨f, hf, _⟩
  · exact Nat.le_refl _
  · cases hk
  · cases hk
  · cases hf
theorem OkP.format {n : Nat} {P : PS} (h : OkP n P) (B : List ByteArray) : OkP (n + 4194305) (wformat P B).P := by
  unfold wformat
  split
  · exact h.mono (by omega)
  · exact ((OkP.removeAll (P := P) (segsP P) h).begin B 1 []).mono (by omega)
theorem own_format {B0 : Nat} {w0 w : World} {b k mb n : Nat} {P : PS} {Bk : List ByteArray} (h : Own B0 w0 b k mb P Bk n w) (hn : n ≤ 890000000) (hB : Bk.length + 1 ≤ 1000000000) :
    Calls Tryz.prog 32 #[.pointer (some ⟨b, 0, none⟩), .pointer (some ⟨k, 0, none⟩)] w fun e w' => Own B0 w0 b k mb (wformat P Bk).P (wformat P Bk).B (n + 4194305) w' ∧ Kept b k mb Bk (fun _ => False) w w' ∧ (((wformat P Bk).e ≠ 0 ∧ e = .returned (.tuple #[.pointer none, .int .i64 (wformat P Bk).e])) ∨ ((wformat P Bk).e = 0 ∧ ∃ lg, w.heap.size ≤ lg ∧ e = .returned (.tuple #[.pointer (some ⟨lg, 0, none⟩), .int .i64 0]) ∧ LogAt w' lg b k (wformat P Bk).L)) := by
  obtain ⟨S, hp, hR, hf⟩ := h.dev
  subst hp
  refine (format_any b k mb n S Bk w hR h.ok hn hB).mono ?_
  rintro e w' ⟨S', hp', hs, hq⟩
  exact ⟨h.next hf hs hp' (fun _ h => h.elim) (h.ok.format Bk), ⟨S, hR, hs.touch⟩, hq⟩
theorem wformat_L (P : PS) (B : List ByteArray) : (wformat P B).L.Ok := by
  unfold wformat
  split
  · exact firstG_ok (by decide)
  · exact wbegin_L (by decide) []
end Go.Proofs.YtaeklleogniimaaGreatDoor
namespace Go.Proofs.YtaeklleogniimaaGreatDoor
open Go Go.RowKit
set_option linter.unusedVariables false

theorem vnone_nil (w : World) : Calls Tryz.prog 37 #[.pointer none] w fun e w' => e = .returned (.bool true) ∧ w = w' := by
  go_enter Tryz.func37, Tryz.ntmps37
  go_wp2_with fail
  go_ret
  exact ⟨rfl, rfl⟩
theorem vimage_nil (n : Int) (w : World) : Calls Tryz.prog 13 #[.pointer none, .int .i64 n] w fun e w' => e = .returned (.tuple #[.string ⟨#[]⟩, .int .i64 15]) ∧ w = w' := by
  go_enter Tryz.func13, Tryz.ntmps13
  go_wp2_with fail
  go_ret2
  exact ⟨rfl, rfl⟩
theorem vscrub_nil (w : World) : Calls Tryz.prog 16 #[.pointer none] w fun e w' => e = .returned (.slice none 0 0) ∧ w = w' := by
  go_enter Tryz.func16, Tryz.ntmps16
  go_wp2_with fail
  go_ret
  exact ⟨rfl, rfl⟩
theorem vup_nil (w : World) : Calls Tryz.prog 15 #[.pointer none] w fun e w' => e = .returned (.bool false) ∧ w = w' := by
  go_enter Tryz.func15, Tryz.ntmps15
  go_wp2_with fail
  refine (vnone_nil _).mono ?_
  rintro e w' ⟨rfl, rfl⟩
  go_wp2_with fail
  go_ret
  exact ⟨rfl, rfl⟩
theorem vview_nil (w : World) : Calls Tryz.prog 17 #[.pointer none] w fun e w' => e = .returned (.agg #[.int .i64 0, .int .i64 0, .int .i64 0, .slice none 0 0, .slice none 0 0]) ∧ Below w.heap.size w w' := by
  go_enter Tryz.func17, Tryz.ntmps17
  go_wp2_with fail
  refine bodyPost_ret (v := .agg #[.int .i64 0, .int .i64 0, .int .i64 0, .slice none 0 0, .slice none 0 0]) (by simp [results, Tryz.results17, go_sem]) rfl ⟨rfl, ?_⟩
  exact (Below.refl _ _).alloc (Nat.le_refl _) _
set_option maxRecDepth 100000 in
theorem vhandle_nil (m0 m1 m2 m3 m4 m5 m6 m7 m8 m9 m10 m11 m12 m13 : Value) (w : World) :
    Calls Tryz.prog 14 #[.pointer none, .agg #[m0, m1, m2, m3, m4, m5, m6, m7, m8, m9, m10, m11, m12, m13]] w fun e w' => e = .returned (.slice none 0 0) ∧ Below w.heap.size w w' := by
  go_enter Tryz.func14, Tryz.ntmps14
  go_wp2_with (go_at_call 37; refine (vnone_nil _).mono ?_; rintro e w' ⟨rfl, rfl⟩)
  go_ret
  exact ⟨rfl, (Below.refl _ _).alloc (Nat.le_refl _) _⟩
end Go.Proofs.YtaeklleogniimaaGreatDoor
namespace Go.Proofs.YtaeklleogniimaaGreatDoor
open Go Go.RowKit
set_option linter.unusedVariables false

/-- a vault that has nothing but a promise -/
def vltVals (id : Int) (d k lg st : Nat) (pr : Int) : List Value := [.int .i64 id, .pointer (some ⟨d, 0, none⟩), .pointer (some ⟨k, 0, none⟩), .pointer (some ⟨lg, 0, none⟩), .int .i64 pr, .int .i64 0, .int .i64 0, .slice none 0 0, .pointer (some ⟨st, 0, none⟩), .pointer none, .bool false]
def VltAt (w : World) (v : Nat) (id : Int) (d k lg st : Nat) (pr : Int) : Prop := Blk w v (vltVals id d k lg st pr) 89 ∧ Blk w st [.pointer (some ⟨k, 0, none⟩), .slice none 0 0] 172
theorem touchV {a w : World} {b o : Nat} (h : Touch (fun k => k = b) a w) (v : Value) : Touch (fun k => k = b) a (w.setCell ⟨b, o, none⟩ v) := h.set (p := ⟨b, o, none⟩) (Or.inl rfl) v
theorem storeNew_any (k : Nat) (w : World) : Calls Tryz.prog 81 #[.pointer (some ⟨k, 0, none⟩)] w fun e w' => ∃ st, e = .returned (.pointer (some ⟨st, 0, none⟩)) ∧ w.heap.size ≤ st ∧ Blk w' st [.pointer (some ⟨k, 0, none⟩), .slice none 0 0] 172 ∧ Below w.heap.size w w' := by
  go_enter Tryz.func81, Tryz.ntmps81
  go_wp2_with fail
  go_ret
  exact ⟨_, rfl, Nat.le_refl _, Blk.new w [.pointer (some ⟨k, 0, none⟩), .slice none 0 0] _, (Below.refl _ _).alloc (Nat.le_refl _) _⟩
theorem vfresh_any (k : Nat) (w : World) : Calls Tryz.prog 33 #[.pointer (some ⟨k, 0, none⟩)] w fun e w' => ∃ st, e = .returned (.agg #[.int .i64 0, .int .i64 0, .int .i64 0, .slice none 0 0, .pointer (some ⟨st, 0, none⟩)]) ∧ w.heap.size ≤ st ∧ Blk w' st [.pointer (some ⟨k, 0, none⟩), .slice none 0 0] 172 ∧ Below w.heap.size w w' := by
  have HN := Lib.hid (fun W => storeNew_any k W)
  go_enter Tryz.func33, Tryz.ntmps33
  go_wp2_with fail
  refine (HN.out _).mono ?_
  rintro e w1 ⟨st, rfl, hst, hb, hb1⟩
  have HQ := Lib.hid ((Blk.new w [.int .i64 0, .int .i64 0, .int .i64 0, .slice none 0 0, .pointer none] 85).below hb1)
  have HB := Lib.hid hb
  have hst1 : w.heap.size + 1 ≤ st := by simpa using hst
  have HB1 := Lib.hid (below_step ((Below.refl w.heap.size w).alloc (Nat.le_refl _) (.cells #[.int .i64 0, .int .i64 0, .int .i64 0, .slice none 0 0, .pointer none] 85)) hb1)
  clear hb hb1 hst
  obtain ⟨g, Hg⟩ : ∃ g, Hid (g = w.heap.size) := ⟨_, Lib.hid rfl⟩
  rw [← Hg.out] at HQ hst1 ⊢
  have k0 := HQ.out.cell 0
  have k1 := HQ.out.cell 1
  have k2 := HQ.out.cell 2
  have k3 := HQ.out.cell 3
  have k4 := HQ.out.cell 4
  have f0 := HQ.out.free 0
  have f1 := HQ.out.free 1
  have f2 := HQ.out.free 2
  have f3 := HQ.out.free 3
  have f4 := HQ.out.free 4
  have hq := HQ.out.lt
  simp only [List.getElem?_cons_zero, List.getElem?_cons_succ] at k0 k1 k2 k3 k4
  go_wp2_with fail
  have HQf := Lib.hid (((((HQ.out.set 0 (.int .i64 0)).set 1 (.int .i64 0)).set 2 (.int .i64 0)).set 3 (.slice none 0 0)).set 4 (.pointer (some ⟨st, 0, none⟩)))
  have HTf := Lib.hid (touchV (o := 4) (touchV (o := 3) (touchV (o := 2) (touchV (o := 1) (touchV (o := 0) (Touch.refl (fun k => k = g) w1) (.int .i64 0)) (.int .i64 0)) (.int .i64 0)) (.slice none 0 0)) (.pointer (some ⟨st, 0, none⟩)))
  generalize ((((w1.setCell ⟨g, 0, none⟩ (.int .i64 0)).setCell ⟨g, 1, none⟩ (.int .i64 0)).setCell ⟨g, 2, none⟩ (.int .i64 0)).setCell ⟨g, 3, none⟩ (.slice none 0 0)).setCell ⟨g, 4, none⟩ (.pointer (some ⟨st, 0, none⟩)) = wf at HQf HTf ⊢
  have c0 : wf.cell? ⟨g, 0, none⟩ = some (.int .i64 0) := HQf.out.cell 0
  have c1 : wf.cell? ⟨g, 1, none⟩ = some (.int .i64 0) := HQf.out.cell 1
  have c2 : wf.cell? ⟨g, 2, none⟩ = some (.int .i64 0) := HQf.out.cell 2
  have c3 : wf.cell? ⟨g, 3, none⟩ = some (.slice none 0 0) := HQf.out.cell 3
  have c4 : wf.cell? ⟨g, 4, none⟩ = some (.pointer (some ⟨st, 0, none⟩)) := HQf.out.cell 4
  refine bodyPost_ret (v := .agg #[.int .i64 0, .int .i64 0, .int .i64 0, .slice none 0 0, .pointer (some ⟨st, 0, none⟩)]) (by simp [results, Tryz.results33, go_sem, c0, c1, c2, c3, c4]) rfl ?_
  refine ⟨st, rfl, by have := Hg.out; omega, HB.out.touch HTf.out (by omega), ?_⟩
  exact HB1.out.trans (HTf.out.below HB1.out.size (fun j hj hh => by have := Hg.out; omega))
theorem make_id (id : Int) (v1 v2 : Value) (w : World) (h : id < 0 ∨ 8 < id) (hk : -9223372036854775808 ≤ id ∧ id ≤ 9223372036854775807) : Calls Tryz.prog 10 #[.int .i64 id, v1, v2] w fun e w' => e = .returned (.tuple #[.pointer none, .int .i64 1]) ∧ w = w' := by
  by_cases h1 : id < 0
  · go_enter Tryz.func10, Tryz.ntmps10
    go_wp2_with fail
    go_ret2
    exact ⟨rfl, rfl⟩
  · have h2 : (9 : Int) ≤ id := by omega
    go_enter Tryz.func10, Tryz.ntmps10
    go_wp2_with fail
    go_ret2
    exact ⟨rfl, rfl⟩
theorem walNone_book (d : Nat) (w : World) : Calls Tryz.prog 76 #[.pointer (some ⟨d, 0, none⟩), .pointer none] w fun e w' => e = .returned (.bool true) ∧ w = w' := by
  have HR := Lib.hid (fun W => bookReady_nil W)
  go_enter Tryz.func76, Tryz.ntmps76
  go_wp2_with (go_at_call 137; refine (HR.out _).mono ?_; rintro e w' ⟨rfl, rfl⟩)
  go_ret
  exact ⟨rfl, rfl⟩
theorem walNone_disk (v : Value) (w : World) : Calls Tryz.prog 76 #[.pointer none, v] w fun e w' => e = .returned (.bool true) ∧ w = w' := by
  go_enter Tryz.func76, Tryz.ntmps76
  go_wp2_with fail
  go_ret
  exact ⟨rfl, rfl⟩
theorem format_book (d : Nat) (w : World) : Calls Tryz.prog 32 #[.pointer (some ⟨d, 0, none⟩), .pointer none] w fun e w' => e = .returned (.tuple #[.pointer none, .int .i64 1]) ∧ w = w' := by
  go_enter Tryz.func32, Tryz.ntmps32
  go_wp2_with (go_at_call 76; refine (walNone_book _ _).mono ?_; rintro e w' ⟨rfl, rfl⟩)
  go_ret2
  exact ⟨rfl, rfl⟩
theorem open_disk (v : Value) (w : World) : Calls Tryz.prog 34 #[.pointer none, v] w fun e w' => e = .returned (.tuple #[.pointer none, .slice none 0 0, .int .i64 1]) ∧ w = w' := by
  go_enter Tryz.func34, Tryz.ntmps34
  go_wp2_with (go_at_call 76; refine (walNone_disk _ _).mono ?_; rintro e w' ⟨rfl, rfl⟩)
  refine bodyPost_ret (v := .tuple #[.pointer none, .slice none 0 0, .int .i64 1]) (by simp [results, Tryz.results34, go_sem]) rfl ⟨rfl, rfl⟩
theorem make_book (d : Nat) (w : World) : Calls Tryz.prog 10 #[.int .i64 0, .pointer (some ⟨d, 0, none⟩), .pointer none] w fun e w' => e = .returned (.tuple #[.pointer none, .int .i64 1]) ∧ w = w' := by
  go_enter Tryz.func10, Tryz.ntmps10
  go_wp2_with (go_at_call 32; refine (format_book _ _).mono ?_; rintro e w' ⟨rfl, rfl⟩)
  go_ret2
  exact ⟨rfl, rfl⟩
theorem vopen_disk (v : Value) (w : World) : Calls Tryz.prog 12 #[.int .i64 0, .pointer none, v] w fun e w' => e = .returned (.tuple #[.pointer none, .int .i64 1]) ∧ w = w' := by
  go_enter Tryz.func12, Tryz.ntmps12
  go_wp2_with (go_at_call 34; refine (open_disk _ _).mono ?_; rintro e w' ⟨rfl, rfl⟩)
  go_ret2
  exact ⟨rfl, rfl⟩
theorem make_ok {B0 : Nat} {w0 w : World} {b k mb n : Nat} {P : PS} {Bk : List ByteArray} (id : Int) (h : Own B0 w0 b k mb P Bk n w) (hid : 0 ≤ id ∧ id ≤ 8) (hn : n ≤ 890000000) (hB : Bk.length + 1 ≤ 1000000000) (he : (wformat P Bk).e = 0) :
    Calls Tryz.prog 10 #[.int .i64 id, .pointer (some ⟨b, 0, none⟩), .pointer (some ⟨k, 0, none⟩)] w fun e w' => ∃ v lg st, e = .returned (.tuple #[.pointer (some ⟨v, 0, none⟩), .int .i64 0]) ∧ B0 ≤ v ∧ B0 ≤ lg ∧ B0 ≤ st ∧ Own B0 w0 b k mb (wformat P Bk).P (wformat P Bk).B (n + 4194305) w' ∧ LogAt w' lg b k (wformat P Bk).L ∧ VltAt w' v id b k lg st 0 := by
  have HF := Lib.hid (own_format h hn hB)
  have HV := Lib.hid (fun W => vfresh_any k W)
  have Hs := Lib.hid h.sz
  have h1 : ¬ id < 0 := by omega
  have h2 : ¬ (9 : Int) ≤ id := by omega
  clear h hn hB hid
  generalize hR : wformat P Bk = R at HF he ⊢
  clear hR
  go_enter Tryz.func10, Tryz.ntmps10
  go_wp2_with fail
  refine HF.out.mono ?_
  rintro e w1 ⟨ho, _, ⟨h0, _⟩ | ⟨_, lg, hlg, rfl, hl⟩⟩
  · exact absurd he h0
  · have HO := Lib.hid ho
    have HL := Lib.hid hl
    have HLg := Lib.hid (Nat.le_trans Hs.out hlg)
    clear ho hl hlg HF he
    go_wp2_with fail
    refine (HV.out _).mono ?_
    rintro e w2 ⟨st, rfl, hst, hb, hb2⟩
    have HB := Lib.hid hb
    have HO2 := Lib.hid (HO.out.below hb2)
    have HL2 := Lib.hid (Blk.below HL.out hb2)
    have HSt := Lib.hid (Nat.le_trans HO.out.sz hst)
    clear hst hb hb2 HO HL HV
    go_wp2_with fail
    go_ret2
    have hbw := (Below.refl w2.heap.size w2).alloc (Nat.le_refl _) (.cells (vltVals id b k lg st 0).toArray 89)
    exact ⟨_, lg, st, rfl, HO2.out.sz, HLg.out, HSt.out, HO2.out.below hbw, Blk.below HL2.out hbw, Blk.new w2 (vltVals id b k lg st 0) _, HB.out.below hbw⟩
end Go.Proofs.YtaeklleogniimaaGreatDoor
