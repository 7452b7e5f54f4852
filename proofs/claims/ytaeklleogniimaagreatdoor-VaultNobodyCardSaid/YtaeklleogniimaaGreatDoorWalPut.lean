/- Records put behind a log's end: wal.(*Log).put. Conditions: sizes. -/
import Derived.Test.YtaeklleogniimaaGreatDoorWalDef
import Derived.Test.YtaeklleogniimaaGreatDoorBuilder
import Derived.Test.YtaeklleogniimaaGreatDoorHeld
namespace Go.Proofs.YtaeklleogniimaaGreatDoor
open Go Go.RowKit
set_option linter.unusedVariables false

theorem builder_touch {T e B b : Nat} {bs : List Value} {w w' : World} {X : Nat → Prop} (h : Lib.IsBuilder T e B b bs w) (ht : Touch X w w') (hX : ∀ j, X j → j < B) : Lib.IsBuilder T e B b bs w' := by
  have key : ∀ p, Lib.BuilderAt T e B b p bs w → Lib.BuilderAt T e B b p bs w' := by
    intro p h
    have hlt := h.lt
    obtain ⟨hB, v, hbk, hown, hne⟩ := h
    exact ⟨hB, v, by rw [ht.block b hlt (fun hx => by have := hX b hx; omega)]; exact hbk, row_touch hown ht (fun g hg hx => by have := hX g hx; have := (hown.lt g hg).1; omega), hne⟩
  exact h.imp (key _) (key _)
theorem rowF_touch {X : Nat → Prop} {w w' : World} {base : Nat} {e : TypeId} {sz : Nat} {v : Value} {n : Nat} {xs : List Value} (h : w.ownsRowF base e sz v n xs) (ht : Touch X w w') (hX : ∀ j, X j → j < base) : w'.ownsRowF base e sz v n xs := by
  have hh := h
  obtain ⟨h1, h2⟩ := h
  refine ⟨h1, ?_⟩
  rcases h2 with ⟨rfl, rfl⟩ | ⟨g, cap, cur, fz, rfl, hg, hb, r⟩
  · exact Or.inl ⟨rfl, rfl⟩
  · refine Or.inr ⟨g, cap, cur, fz, rfl, hg, ?_, r⟩
    rw [ht.block g (hh.lt g rfl).2 (fun hx => by have := hX g hx; omega)]
    exact hb
theorem builderF_touch {T e B b : Nat} {bs : List Value} {w w' : World} {X : Nat → Prop} (h : Lib.IsBuilderF T e B b bs w) (ht : Touch X w w') (hX : ∀ j, X j → j < B) : Lib.IsBuilderF T e B b bs w' := by
  have key : ∀ p, Lib.BuilderAtF T e B b p bs w → Lib.BuilderAtF T e B b p bs w' := by
    intro p h
    have hlt := h.lt
    obtain ⟨hB, v, hbk, hown, hne⟩ := h
    exact ⟨hB, v, by rw [ht.block b hlt (fun hx => by have := hX b hx; omega)]; exact hbk, rowF_touch hown ht hX, hne⟩
  exact h.imp (key _) (key _)
theorem builderF_below {T e B b : Nat} {bs : List Value} {w w' : World} (h : Lib.IsBuilderF T e B b bs w) (hb : Below w.heap.size w w') : Lib.IsBuilderF T e B b bs w' :=
  builderF_touch (X := fun _ => False) h ⟨hb.os, hb.tape, hb.output, hb.size, fun j hj _ => hb.block j hj⟩ (fun _ h => h.elim)
def logVals (b k : Nat) (L : LG) : List Value := [.pointer (some ⟨b, 0, none⟩), .pointer (some ⟨k, 0, none⟩), .int .i64 L.n, .int .i64 L.e, .string L.m]
/-- a log's object -/
def LogAt (w : World) (lg b k : Nat) (L : LG) : Prop := Blk w lg (logVals b k L) 209
theorem LogAt.not_foot {w : World} {lg b k mb : Nat} {L : LG} {S : DSt} {B : List ByteArray} (h : LogAt w lg b k L) (hR : Rg w b k mb S B) : ¬ foot b S lg ∧ lg ≠ mb ∧ lg ≠ k :=
  ⟨foot_not hR.dev h (by decide), hR.book.mb_ne h, fun e => (Blk.ne h hR.book.at_ (by decide)) e⟩
/-- what holds while records are gathered -/
structure Gath (b k mb bb : Nat) (S : DSt) (B0 : List ByteArray) (w0 : World) (bs : List UInt8) (Bk : List ByteArray) (w : World) : Prop where
  step : RStep (fun _ => False) b k mb S B0 w0 S Bk w
  bld : Lib.IsBuilder 184 5 w0.heap.size bb (Lib.byteCells bs) w
theorem Gath.below {b k mb bb : Nat} {S : DSt} {B0 : List ByteArray} {w0 w w' : World} {bs : List UInt8} {Bk : List ByteArray} (h : Gath b k mb bb S B0 w0 bs Bk w) (hb : Below w.heap.size w w') : Gath b k mb bb S B0 w0 bs Bk w' :=
  ⟨h.step.below hb, builder_below h.bld hb⟩
theorem Gath.lg {b k mb bb lg : Nat} {S : DSt} {B0 : List ByteArray} {w0 w : World} {bs : List UInt8} {Bk : List ByteArray} {L : LG} (h : Gath b k mb bb S B0 w0 bs Bk w) (h0 : Rg w0 b k mb S B0) (hl : LogAt w0 lg b k L) : LogAt w lg b k L := by
  obtain ⟨h1, h2, _⟩ := hl.not_foot h0
  exact h.step.blk hl h1 h2 (fun h => h)
theorem Gath.start {b k mb : Nat} {S : DSt} {B : List ByteArray} {w : World} (h : Rg w b k mb S B) : Gath b k mb w.heap.size S B w [] B (w.alloc (.cells #[.pointer none, .slice none 0 0] 184)) := by
  refine ⟨(RStep.refl h).below ((Below.refl _ w).alloc (Nat.le_refl _) _), Or.inl ⟨Nat.le_refl _, .slice none 0 0, heap_alloc_new w _, World.ownsRow_nil _ _ _ _, ?_⟩⟩
  simp [Value.ownBlock]
/-- a record taken in -/
theorem Gath.took {b k mb bb : Nat} {S : DSt} {B0 : List ByteArray} {w0 w w' : World} {bs : List UInt8} {Bk Bk' : List ByteArray} (h : Gath b k mb bb S B0 w0 bs Bk w) (h0 : Rg w0 b k mb S B0) (hb : BookIs w' k mb Bk') (ht : Touch (fun j => j = mb) w w') : Gath b k mb bb S B0 w0 bs Bk' w' :=
  ⟨h.step.trans (h.step.at_.mark hb ht), builder_touch h.bld ht (fun j hj => by have := h0.book.lt; omega)⟩
theorem byteCells_text (bs t : List UInt8) : Lib.byteCells bs ++ Lib.strCells (textOf t) = Lib.byteCells (bs ++ t) := by
  unfold Lib.byteCells
  rw [List.map_append]
  congr 1
/-- its bytes written -/
theorem Gath.write {b k mb bb : Nat} {S : DSt} {B0 : List ByteArray} {w0 w w' : World} {bs t : List UInt8} {Bk : List ByteArray} {p : Value} (h : Gath b k mb bb S B0 w0 bs Bk w) (h0 : Rg w0 b k mb S B0) (hp : p = .pointer (some ⟨bb, 0, none⟩))
    (hb : Lib.BuilderAt 184 5 w0.heap.size bb p (Lib.byteCells bs ++ Lib.strCells (textOf t)) w') (hB : Below w0.heap.size w w') : Gath b k mb bb S B0 w0 (bs ++ t) Bk w' := by
  subst hp
  rw [byteCells_text] at hb
  have hl := h0.book.lt
  have ht : Touch (fun j => w0.heap.size ≤ j) w w' := ⟨hB.os, hB.tape, hB.output, hB.size, fun j _ hn => hB.block j (by omega)⟩
  refine ⟨h.step.also ht (fun j hj => Or.inr hj) (fun j hj hn => ?_) (by omega) (by omega), Or.inr hb⟩
  have := foot_lt h0.dev hj
  omega
theorem putAcc_long {c : UInt8} {s : ByteArray} {r B : List ByteArray} {m : ByteArray} {acc : List UInt8} (h : 1048832 < s.size) : putAcc c (s :: r) B m acc = (B, none) := if_pos h
theorem putAcc_step {c : UInt8} {s : ByteArray} {r B : List ByteArray} {m : ByteArray} {acc : List UInt8} (h : ¬ 1048832 < s.size) : putAcc c (s :: r) B m acc = putAcc c r (seen B (m ++ sig c s)) (markOf (seen B (m ++ sig c s)) (m ++ sig c s)) (acc ++ recL (seen B (m ++ sig c s)) m (sig c s)) := if_neg h
set_option maxRecDepth 100000 in
set_option maxHeartbeats 2000000 in
theorem put_any (b k mb lg n : Nat) (S : DSt) (B : List ByteArray) (L : LG) (c : UInt8) (ad : Option Addr) (cap : Nat) (texts : List ByteArray) (w : World) (h : Rg w b k mb S B) (hlg : LogAt w lg b k L) (hL : L.Ok) (hok : OkP n S.pl) (hn : n ≤ 900000000)
    (hs : StrsAt w ad texts) (hbs : texts ≠ [] → Beside b mb S (fun j => j = lg) ad) (htl : texts.length ≤ 100000) (hB : B.length + texts.length ≤ 1000000000) :
    Calls Tryz.prog 144 #[.pointer (some ⟨lg, 0, none⟩), .int .u8 (c.toNat : Int), .slice ad texts.length cap] w fun e w' => e = .returned (.int .i64 (wput S.pl B L c texts).e) ∧ ∃ S', S'.pl = (wput S.pl B L c texts).P ∧ RStep (fun j => j = lg) b k mb S B w S' (wput S.pl B L c texts).B w' ∧ LogAt w' lg b k (wput S.pl B L c texts).L := by
  have H := Lib.hid h
  have HLg := Lib.hid hlg
  have HS := Lib.hid hs
  have HBs := Lib.hid (fun he => (fun g off e => ⟨(hbs he g off e).1, (hbs he g off e).2.1, fun h => h⟩ : Beside b mb S (fun _ => False) ad))
  have HG0 := Lib.hid (Gath.start h)
  have HOk := Lib.hid hok
  generalize hR : wput S.pl B L c texts = R
  have HR := Lib.hid hR
  have hLm := hL.m
  have hcb := c.toNat_lt
  clear h hlg hs hbs hR
  go_enter Tryz.func144, Tryz.ntmps144
  go_upto_region 2 with (fail)
  generalize w.alloc (.cells #[.pointer none, .slice none 0 0] 184) = w1 at HG0 ⊢
  have HL1 := Lib.hid (HG0.out.lg H.out HLg.out)
  have c4 : w1.cell? ⟨lg, 4, none⟩ = some (.string L.m) := HL1.out.cell 4
  generalize hbb : w.heap.size = bb at HG0
  have Hbb := Lib.hid hbb
  go_wp2_with fail
  clear hbb c4
  go_loopw [8, 19] (fun mv i wr => ∃ (kx : Nat) (Bk : List ByteArray) (mk : ByteArray) (bs : List UInt8), kx ≤ texts.length ∧ i = .int .i64 kx ∧ mv = .string mk ∧ mk.size ≤ 1000 ∧ Bk.length ≤ B.length + kx ∧ bs.length ≤ kx * 1048869 ∧ Hid (Gath b k mb bb S B w bs Bk wr) ∧ Hid (putAcc c texts B L.m [] = putAcc c (texts.drop kx) Bk mk bs)) (fun _ i _ => texts.length - (intOf i).toNat)
  case atStart => exact ⟨0, B, L.m, [], Nat.zero_le _, rfl, rfl, hLm, Nat.le_refl _, Nat.zero_le _, HG0, Lib.hid rfl⟩
  case round =>
    obtain ⟨kx, Bk, mk, bs, hk, rfl, rfl, hmk, hBk, hbl, HG, HP⟩ := hrel
    by_cases hlt : kx < texts.length
    · have hlti : (kx : Int) < (texts.length : Int) := by omega
      rcases HG.out.step.strs HS.out HBs.out with h0 | ⟨g, off, rfl, hgl, hc⟩
      · rw [h0] at hlt; simp at hlt
      · have cs := hc kx hlt
        have HP2 := HP.out
        rw [List.drop_eq_getElem_cons hlt] at HP2
        generalize texts[kx] = s at cs HP2
        by_cases hbig : 1048832 < s.size
        · have hbigi : (1048832 : Int) < (s.size : Int) := by omega
          rw [putAcc_long hbig] at HP2
          have HE := Lib.hid (HR.out.symm.trans (wput_long HP2))
          have HL2 := Lib.hid (HG.out.lg H.out HLg.out)
          clear HP HP2 hc
          go_wp2_with fail
          go_ret
          exact ⟨by rw [HE.out]; rfl, S, by rw [HE.out], by rw [HE.out]; exact HG.out.step.mono (fun j _ h => h.elim), by rw [HE.out]; exact HL2.out⟩
        · have hbigi : ¬ ((1048832 : Int) < (s.size : Int)) := by omega
          rw [putAcc_step hbig] at HP2
          have HP3 := Lib.hid HP2
          have HL2 := Lib.hid (HG.out.lg H.out HLg.out)
          have c1 : wr.cell? ⟨lg, 1, none⟩ = some (.pointer (some ⟨k, 0, none⟩)) := HL2.out.cell 1
          have HRec := Lib.hid (show ∀ W, Below wr.heap.size wr W → Calls Tryz.prog 210 #[.pointer (some ⟨k, 0, none⟩), .string mk, .string (⟨#[c]⟩ ++ s)] W fun e W' => e = .returned (.tuple #[.string (textOf (recL (seen Bk (mk ++ sig c s)) mk (sig c s))), .string (markOf (seen Bk (mk ++ sig c s)) (mk ++ sig c s))]) ∧ Hid (Gath b k mb bb S B w bs (seen Bk (mk ++ sig c s)) W') from fun W hW => by
            have hg := HG.out.below hW
            refine (record_any k mb Bk mk (sig c s) W hg.step.at_.book hmk (by rw [sig_size]; omega) (by omega) H.out.ne).mono ?_
            rintro e W' ⟨rfl, hb1, ht1⟩
            exact ⟨by rw [rec_text], Lib.hid (hg.took H.out hb1 ht1)⟩)
          have hcv : ∀ W : World, (convert 134 9 (.slice (some ⟨W.heap.size, 0, none⟩) 1 1)).run Tryz.prog (W.alloc (.cells #[.int .u8 (c.toNat : Int)] 5)) = .ok (.string ⟨#[c]⟩) (W.alloc (.cells #[.int .u8 (c.toNat : Int)] 5)) := fun W => by
            have hb := Blk.new W [.int .u8 (c.toNat : Int)] 5
            refine run_convert_bytes_back _ 134 9 5 ⟨W.heap.size, 0, none⟩ 1 [c] Tryz.underlying134 Tryz.underlying5 Tryz.underlying9 ?_
            intro j hj
            first | rw [addr_add, Nat.zero_add] | rw [addr_add]
            refine (hb.cell j).trans ?_
            have h0 : j = 0 := by simpa using hj
            subst h0
            rfl
          have hcv2 : ∀ W : World, (convert 134 9 (.slice (some ⟨W.heap.size, 0, none⟩) 1 1)).run Tryz.prog (W.alloc (.cells #[.int .u8 (c.toNat : Int)] 5)).drew = .ok (.string ⟨#[c]⟩) (W.alloc (.cells #[.int .u8 (c.toNat : Int)] 5)).drew := fun W => hcv W.drew
          have o1 : ¬ (9223372036854775807 < 1 + s.size) := by omega
          have hlw := HL2.out.lt
          have hrl : (recL (seen Bk (mk ++ sig c s)) mk (sig c s)).length ≤ 1048869 := by rw [recL_length, sig_size]; omega
          have hml := markOf_size (seen Bk (mk ++ sig c s)) (mk ++ sig c s)
          have hBl := (seen_length Bk (mk ++ sig c s)).2
          generalize seen Bk (mk ++ sig c s) = Bk2 at HRec HP3 hrl hml hBl
          generalize markOf Bk2 (mk ++ sig c s) = mk2 at HRec HP3 hml
          generalize recL Bk2 mk (sig c s) = rl at HRec HP3 hrl
          clear HP HP2 hc
          go_upto_region 9 with (fail)
          clear cs
          refine wp_region_noPanic ?_
          refine wp_region_held_drew (S := (fun w' => w'.cell? ⟨lg, 1, none⟩ = some (.pointer (some ⟨k, 0, none⟩)))) (by kernel_rfl) ?_ (fun hHeld => ?_)
          · ((try dsimp only); (first | go_keep | trace_state))
          refine held_take (i := 0) (v := ?_) rfl (by kernel_rfl) (by kernel_rfl) (by kernel_rfl) (fun _ _ _ h => h) (by rfl) (fun w hSw => ?_) (by assumption) ?_
          rotate_left
          · ((try dsimp only at hSw); go_simp; (try with_reducible rfl))
          (try simp only [Act.put, List.setIfInBounds_toArray, List.set_cons_zero, List.set_cons_succ])
          refine held_take (i := 1) (v := ?_) rfl (by kernel_rfl) (by kernel_rfl) (by kernel_rfl) (fun _ _ _ h => h) (by rfl) (fun w hSw => ?_) (by assumption) ?_
          rotate_left
          · ((try dsimp only at hSw); go_simp; (try with_reducible rfl))
          (try simp only [Act.put, List.setIfInBounds_toArray, List.set_cons_zero, List.set_cons_succ])
          refine held_take (i := 2) (v := ?_) rfl (by kernel_rfl) (by kernel_rfl) (by kernel_rfl) (fun _ _ _ h => h) (by rfl) (fun w hSw => ?_) (by assumption) ?_
          rotate_left
          · ((try dsimp only at hSw); go_simp; (try with_reducible rfl))
          (try simp only [Act.put, List.setIfInBounds_toArray, List.set_cons_zero, List.set_cons_succ])
          refine held_take (i := 3) (v := ?_) rfl (by kernel_rfl) (by kernel_rfl) (by kernel_rfl) (fun _ _ _ h => h) (by rfl) (fun w hSw => ?_) (by assumption) ?_
          rotate_left
          · ((try dsimp only at hSw); go_simp; (try with_reducible rfl))
          (try simp only [Act.put, List.setIfInBounds_toArray, List.set_cons_zero, List.set_cons_succ])
          refine held_take (i := 4) (v := ?_) rfl (by kernel_rfl) (by kernel_rfl) (by kernel_rfl) (fun _ _ _ h => h) (by rfl) (fun w hSw => ?_) (by assumption) ?_
          rotate_left
          · ((try dsimp only at hSw); go_simp; (try with_reducible rfl))
          (try simp only [Act.put, List.setIfInBounds_toArray, List.set_cons_zero, List.set_cons_succ])
          refine held_take (i := 5) (v := ?_) rfl (by kernel_rfl) (by kernel_rfl) (by kernel_rfl) (fun _ _ _ h => h) (by rfl) (fun w hSw => ?_) (by assumption) ?_
          rotate_left
          · ((try dsimp only at hSw); go_simp; (try with_reducible rfl))
          (try simp only [Act.put, List.setIfInBounds_toArray, List.set_cons_zero, List.set_cons_succ])
          refine held_take (i := 8) (v := ?_) rfl (by kernel_rfl) (by kernel_rfl) (by kernel_rfl) (fun _ _ _ h => h) (by rfl) (fun w hSw => ?_) (by assumption) ?_
          rotate_left
          · ((try dsimp only at hSw); go_simp; (try with_reducible rfl))
          (try simp only [Act.put, List.setIfInBounds_toArray, List.set_cons_zero, List.set_cons_succ])
          refine wpAnyH_ready (rs := [6]) (by kernel_rfl) (by simp) ?_
          refine held_cons rfl (fun K hK => ?_) (AllReadyH.nil)
          go_simp
          refine hK.out _ _ ?_ (fun hHeld => ?_)
          · ((try dsimp only); (first | go_keep | trace_state))
          clear hK K
          (try simp only [Act.put, List.setIfInBounds_toArray, List.set_cons_zero, List.set_cons_succ])
          refine wpAnyH_ready (rs := [7]) (by kernel_rfl) (by simp) ?_
          refine held_cons rfl (fun K hK => ?_) (AllReadyH.nil)
          go_simp
          refine hK.out _ _ ?_ (fun hHeld => ?_)
          · ((try dsimp only); (first | go_keep | trace_state))
          clear hK K
          (try simp only [Act.put, List.setIfInBounds_toArray, List.set_cons_zero, List.set_cons_succ])
          refine wpAnyH_ready (rs := [9]) (by kernel_rfl) (by simp) ?_
          refine held_cons rfl (fun K hK => ?_) (AllReadyH.nil)
          go_simp
          refine hK.out _ _ ?_ (fun hHeld => ?_)
          · ((try dsimp only); (first | go_keep | trace_state))
          clear hK K
          (try simp only [Act.put, List.setIfInBounds_toArray, List.set_cons_zero, List.set_cons_succ])
          refine wpAnyH_ready (rs := [10]) (by kernel_rfl) (by simp) ?_
          refine held_cons rfl (fun K hK => ?_) (AllReadyH.nil)
          go_simp
          ((go_at_call 210; refine (HRec.out _ (by first | exact ((Below.refl _ _).drew.alloc (Nat.le_refl _) _) | exact ((Below.refl _ _).alloc (Nat.le_refl _) _).drew)).mono ?_; rintro e w2 ⟨rfl, hg2⟩; have hc2 : w2.cell? ⟨lg, 1, none⟩ = some (.pointer (some ⟨k, 0, none⟩)) := (hg2.out.lg H.out HLg.out).cell 1))
          go_wp2_with fail
          refine hK.out _ _ ?_ (fun hHeld => ?_)
          · ((try dsimp only); (first | go_keep | trace_state))
          clear hK K
          (try simp only [Act.put, List.setIfInBounds_toArray, List.set_cons_zero, List.set_cons_succ])
          refine held_take (i := 11) (v := ?_) rfl (by kernel_rfl) (by kernel_rfl) (by kernel_rfl) (fun _ _ _ h => h) (by rfl) (fun w hSw => ?_) (by assumption) ?_
          rotate_left
          · ((try dsimp only at hSw); go_simp; (try with_reducible rfl))
          (try simp only [Act.put, List.setIfInBounds_toArray, List.set_cons_zero, List.set_cons_succ])
          refine held_take (i := 12) (v := ?_) rfl (by kernel_rfl) (by kernel_rfl) (by kernel_rfl) (fun _ _ _ h => h) (by rfl) (fun w hSw => ?_) (by assumption) ?_
          rotate_left
          · ((try dsimp only at hSw); go_simp; (try with_reducible rfl))
          (try simp only [Act.put, List.setIfInBounds_toArray, List.set_cons_zero, List.set_cons_succ])
          refine held_take (i := 13) (v := ?_) rfl (by kernel_rfl) (by kernel_rfl) (by kernel_rfl) (fun _ _ _ h => h) (by rfl) (fun w hSw => ?_) (by assumption) ?_
          rotate_left
          · ((try dsimp only at hSw); go_simp; (try with_reducible rfl))
          (try simp only [Act.put, List.setIfInBounds_toArray, List.set_cons_zero, List.set_cons_succ])
          refine held_take (i := 14) (v := ?_) rfl (by kernel_rfl) (by kernel_rfl) (by kernel_rfl) (fun _ _ _ h => h) (by rfl) (fun w hSw => ?_) (by assumption) ?_
          rotate_left
          · ((try dsimp only at hSw); go_simp; (try with_reducible rfl))
          (try simp only [Act.put, List.setIfInBounds_toArray, List.set_cons_zero, List.set_cons_succ])
          refine held_take (i := 15) (v := ?_) rfl (by kernel_rfl) (by kernel_rfl) (by kernel_rfl) (fun _ _ _ h => h) (by rfl) (fun w hSw => ?_) (by assumption) ?_
          rotate_left
          · ((try dsimp only at hSw); go_simp; (try with_reducible rfl))
          (try simp only [Act.put, List.setIfInBounds_toArray, List.set_cons_zero, List.set_cons_succ])
          refine wpAnyH_done (by kernel_rfl) ?_ _
          all_goals (refine NoPanic.normal ?_)
          have HG2 := Lib.hid hg2.out
          clear hc2 hg2 HRec hcv hcv2 o1 c1
          have HWS := Lib.hid (writeString_any w.heap.size bb (Lib.byteCells bs) (textOf rl) w2 HG2.out.bld (by rw [Lib.byteCells_length, textOf_size]; omega) HG2.out.step.size)
          go_wp2_with fail
          refine HWS.out.mono ?_
          rintro e w3 ⟨rfl, hb3, hB3⟩
          have HG3 := Lib.hid (HG2.out.write H.out rfl hb3 hB3)
          have HLen : Hid ((bs ++ rl).length ≤ (kx + 1) * 1048869) := Lib.hid (by rw [List.length_append]; omega)
          clear hb3 hB3 HG2 HWS
          go_wp2_with fail
          go_roundw
          case rel => exact ⟨kx + 1, Bk2, mk2, bs ++ rl, by omega, by go_num, rfl, by omega, by omega, HLen.out, HG3, HP3⟩
          case measure => simp [intOf]; omega
    · have hke : kx = texts.length := by omega
      have hge : ¬ ((kx : Int) < (texts.length : Int)) := by omega
      have HP2 := HP.out
      rw [hke, List.drop_length] at HP2
      have HP3 : Hid (putAcc c texts B L.m [] = (Bk, some (bs, mk))) := Lib.hid HP2
      have HL2 := Lib.hid (HG.out.lg H.out HLg.out)
      have c0 : wr.cell? ⟨lg, 0, none⟩ = some (.pointer (some ⟨b, 0, none⟩)) := HL2.out.cell 0
      have c2 : wr.cell? ⟨lg, 2, none⟩ = some (.int .i64 L.n) := HL2.out.cell 2
      have c3 : wr.cell? ⟨lg, 3, none⟩ = some (.int .i64 L.e) := HL2.out.cell 3
      have hlw := HL2.out.lt
      obtain ⟨Bw, hBw⟩ : ∃ Bw : Nat, Bw = w.heap.size := ⟨_, rfl⟩
      have HA0 : Hid (Lib.IsBuilderF 184 5 Bw bb (Lib.byteCells bs) wr.drew ∧ Below Bw wr wr.drew) := Lib.hid (by rw [hBw]; exact ⟨Lib.IsBuilderF.of (builder_below HG.out.bld (Below.refl _ wr).drew), (Below.refl _ wr).drew⟩)
      have HQ : Hid (∀ W, Hid (Lib.IsBuilderF 184 5 Bw bb (Lib.byteCells bs) W ∧ Below Bw wr W) → LogAt W lg b k L ∧ RStep (fun _ => False) b k mb S B w S Bk W) := Lib.hid (fun W hA => by
        have hB := hA.out.2
        rw [hBw] at hB
        have hl := H.out.book.lt
        have ht : Touch (fun j => w.heap.size ≤ j) wr W := ⟨hB.os, hB.tape, hB.output, hB.size, fun j _ hn => hB.block j (by omega)⟩
        have hs := HG.out.step.also ht (fun j hj => Or.inr hj) (fun j hj hn => (by have := foot_lt H.out.dev hj; omega)) (by omega) (by omega)
        obtain ⟨h1, h2, _⟩ := HLg.out.not_foot H.out
        exact ⟨hs.blk HLg.out h1 h2 (fun h => h), hs⟩)
      have hBr : Bw ≤ wr.heap.size := by rw [hBw]; exact HG.out.step.size
      have HN := Lib.hid (show ∀ W, Hid (Lib.IsBuilderF 184 5 Bw bb (Lib.byteCells bs) W ∧ Below Bw wr W) → Calls Tryz.prog 79 #[.int .i64 L.n] W fun e W' => e = .returned (.string (wname L.n)) ∧ Hid (Lib.IsBuilderF 184 5 Bw bb (Lib.byteCells bs) W' ∧ Below Bw wr W') from fun W hA => by
        refine (walName_any L.n W hL.n).mono ?_
        rintro e W' ⟨rfl, hb⟩
        have hsz := hA.out.2.size
        exact ⟨rfl, Lib.hid ⟨builderF_below hA.out.1 hb, hA.out.2.trans (hb.mono (by omega))⟩⟩)
      have HStr := Lib.hid (show ∀ W, Hid (Lib.IsBuilderF 184 5 Bw bb (Lib.byteCells bs) W ∧ Below Bw wr W) → Calls Tryz.prog 122 #[.pointer (some ⟨bb, 0, none⟩)] W fun e W' => e = .returned (.string (textOf bs)) ∧ Hid (Lib.IsBuilderF 184 5 Bw bb (Lib.byteCells bs) W' ∧ Below Bw wr W') from fun W hA => by
        have hsz := hA.out.2.size
        refine (Tryz.Builder_String_any_f Bw bb bs W hA.out.1 (by omega)).mono ?_
        rintro e W' ⟨rfl, hf, hb⟩
        exact ⟨rfl, Lib.hid ⟨hf, hA.out.2.trans hb⟩⟩)
      have HW := Lib.hid (show ∀ W, Hid (Lib.IsBuilderF 184 5 Bw bb (Lib.byteCells bs) W ∧ Below Bw wr W) → Calls Tryz.prog 150 #[.pointer (some ⟨b, 0, none⟩), .string (wname L.n), .int .i64 L.e, .string (textOf bs)] W fun e W' => e = .returned (.int .i64 (S.pl.write (wname L.n) L.e (textOf bs)).1) ∧ Hid (Lib.IsBuilderF 184 5 Bw bb (Lib.byteCells bs) W' ∧ LogAt W' lg b k L ∧ ∃ S', S'.pl = (S.pl.write (wname L.n) L.e (textOf bs)).2 ∧ RStep (fun _ => False) b k mb S B w S' Bk W') from fun W hA => by
        obtain ⟨hl1, hs1⟩ := HQ.out W hA
        refine (write_any b S (wname L.n) L.e (textOf bs) W hs1.at_.dev (HOk.out.ready (by omega)) (by have := hL.e; simp [Lit.wf, IntKind.min, IntKind.max, IntKind.bits, IntKind.signed]; omega) (by rw [textOf_size]; unfold maxLen; omega)).mono ?_
        rintro e W' ⟨rfl, S', hD, hpl⟩
        have hs2 := hs1.trans (hs1.at_.step hD)
        refine ⟨rfl, Lib.hid ⟨?_, ?_, S', hpl, hs2⟩⟩
        · exact builderF_touch hA.out.1 hD.touch (fun j hj => by rw [hBw]; exact foot_lt H.out.dev hj)
        · obtain ⟨h1, h2, _⟩ := HLg.out.not_foot H.out
          exact hs2.blk HLg.out h1 h2 (fun h => h))
      have HC1 := Lib.hid (show ∀ W, LogAt W lg b k L → W.cell? ⟨lg, 0, none⟩ = some (.pointer (some ⟨b, 0, none⟩)) ∧ W.cell? ⟨lg, 2, none⟩ = some (.int .i64 L.n) ∧ W.cell? ⟨lg, 3, none⟩ = some (.int .i64 L.e) from fun W h => ⟨h.cell 0, h.cell 2, h.cell 3⟩)
      have HKA := Lib.hid (fun W hA => HC1.out W (HQ.out W hA).1)
      clear HP HP2 hke
      go_upto_region 12 with (fail)
      go_region_held3 (fun w' => w'.cell? ⟨lg, 0, none⟩ = some (.pointer (some ⟨b, 0, none⟩)) ∧ w'.cell? ⟨lg, 2, none⟩ = some (.int .i64 L.n) ∧ w'.cell? ⟨lg, 3, none⟩ = some (.int .i64 L.e))
        (first | exact hc4 | exact HKA.out _ (by assumption) | go_keep)
        (first
          | (go_at_call 79; refine (HN.out _ (by assumption)).mono ?_; rintro e w2 ⟨rfl, hA2⟩)
          | (go_at_call 122; refine (HStr.out _ (by assumption)).mono ?_; rintro e w3 ⟨rfl, hA3⟩)
          | (go_at_call 150; refine (HW.out _ (by assumption)).mono ?_; rintro e w4 ⟨rfl, hA4⟩; have hc4 := HC1.out w4 hA4.out.2.1))
      have HA5 := Lib.hid hA4.out
      clear HN HStr HW HC1 HKA HQ hc4 hA2 hA3 hA4 HA0
      by_cases hz : (S.pl.write (wname L.n) (↑L.e) (textOf bs)).1 = 0
      · have HE := Lib.hid (HR.out.symm.trans (wput_ok HP3.out hz))
        have hpl := write_place hz
        rw [textOf_size] at hpl
        rw [hz]
        generalize S.pl.write (wname L.n) (↑L.e) (textOf bs) = WRes at HA5 HE
        clear hz
        have d3 : w4.cell? ⟨lg, 3, none⟩ = some (.int .i64 L.e) := HA5.out.2.1.cell 3
        have f3 : w4.frozen? ⟨lg, 3, none⟩ = false := HA5.out.2.1.free 3
        have hlen2 : (Lib.byteCells bs).length = bs.length := Lib.byteCells_length bs
        have HLen := Lib.hid (show ∀ W, Lib.IsBuilderF 184 5 Bw bb (Lib.byteCells bs) W → Calls Tryz.prog 211 #[.pointer (some ⟨bb, 0, none⟩)] W fun e W' => e = .returned (.int .i64 bs.length) ∧ W' = W from fun W hf => by
          have := Tryz.Builder_Len_f Bw bb (Lib.byteCells bs) W hf
          rw [hlen2] at this
          exact this)
        go_upto_region 15 with (fail)
        refine wp_region_still_tail 8 (by kernel_rfl) (by kernel_rfl) ?_
        simp only [List.take_succ_cons, List.take_zero, List.drop_succ_cons, List.drop_zero]
        repeat still_step
        still_call (HLen.out _ HA5.out.1)
        repeat still_step
        refine wpStill_nil ?_
        change wpList _ _ _ _ _ w4.drew
        have HA6 : Hid (LogAt w4.drew lg b k L ∧ ∃ S', S'.pl = WRes.2 ∧ RStep (fun _ => False) b k mb S B w S' Bk w4.drew) := Lib.hid (by
          obtain ⟨_, hl4, S', hp4, hs4⟩ := HA5.out
          exact ⟨hl4, S', hp4, hs4.below (Below.refl _ w4).drew⟩)
        generalize w4.drew = w5 at HA6 ⊢
        clear d3 f3 HA5 HLen
        have g3 : w5.frozen? ⟨lg, 3, none⟩ = false := HA6.out.1.free 3
        have g4 : w5.frozen? ⟨lg, 4, none⟩ = false := HA6.out.1.free 4
        have d3 : w5.cell? ⟨lg, 3, none⟩ = some (.int .i64 L.e) := HA6.out.1.cell 3
        have d4 : w5.cell? ⟨lg, 4, none⟩ = some (.string L.m) := HA6.out.1.cell 4
        go_wp2_with fail
        go_ret
        obtain ⟨hl5, S', hp5, hs5⟩ := HA6.out
        have hX := hl5.not_foot hs5.at_
        have hz1 : ((L.e : Nat) : Int) + ((bs.length : Nat) : Int) = ((L.e + bs.length : Nat) : Int) := by omega
        refine ⟨by rw [HE.out]; rfl, S', by rw [HE.out]; exact hp5, ?_, ?_⟩
        · rw [HE.out]
          refine (hs5.mono (Y := fun j => j = lg) (fun j _ h => h.elim)).also (T := fun j => j = lg) ?_ (fun j hj => Or.inl hj) (fun j hj e => hX.1 (e ▸ hj)) (fun e => hX.2.2 e.symm) (fun e => hX.2.1 e.symm)
          exact touch1_set (touch1_set (Touch.refl _ w5) _) _
        · rw [HE.out]
          have h1 := (Blk.set (Blk.set hl5 3 (.int .i64 ((L.e + bs.length : Nat) : Int))) 4 (.string mk))
          rw [← hz1] at h1
          exact h1
      · have HE := Lib.hid (HR.out.symm.trans (wput_no HP3.out hz))
        generalize S.pl.write (wname L.n) (↑L.e) (textOf bs) = WRes at HA5 HE hz
        have hb : (WRes.1 != 0) = true := by rw [bne_iff_ne]; exact hz
        clear hz
        go_wp2_with fail
        go_ret
        obtain ⟨_, hl4, S', hp4, hs4⟩ := HA5.out
        exact ⟨by rw [HE.out]; rfl, S', by rw [HE.out]; exact hp4, by rw [HE.out]; exact hs4.mono (fun j _ h => h.elim), by rw [HE.out]; exact hl4⟩
end Go.Proofs.YtaeklleogniimaaGreatDoor
