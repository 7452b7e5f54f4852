/- The walk of press.Wrap. Condition: the text's size. plan.Pack: the text wrapped, or a delta that makes it, whichever is shorter. Condition: the sizes. -/
import Derived.Test.YtaemlplcjjbamaaGreatDoorBFind
import Derived.Test.YtaemlplcjjbamaaGreatDoorBDBytes
import Derived.Laws.EntriesVeiled
import Derived.Test.YtaemlplcjjbamaaGreatDoorBBuilder
namespace Go.Proofs.YtaemlplcjjbamaaGreatDoor
open Go Go.RowKit
set_option linter.unusedVariables false
theorem info_i64 : (Tryz.prog.info? 3).map (fun i => (i.zero, i.size, i.bytes)) = some (some (.int .i64 0), 1, 8) := by kernel_rfl
theorem cnT_ba (n : Nat) : cnT n = ba (cnL n) := rfl
set_option maxRecDepth 100000 in
theorem pressNum_any (B n : Nat) (bs : List UInt8) (w : World) (h : isW B bs w) (hn : n ≤ 4611686018427387903) (hlen : bs.length ≤ 10000000000) :
    Calls Tryz.prog 155 #[.int .i64 (n : Int), .pointer (some ⟨B, 0, none⟩)] w fun e w' => e = .returned (.tuple #[]) ∧ isW B (bs ++ cnL n) w' ∧ Below B w w' ∧ KeepB B w w' := by
  have H := Lib.hid h
  have hz := cnL_le hn
  have HN := Lib.hid (codeNum_any n w hn)
  have hBw := isW_lt h
  clear h
  go_enter Tryz.func155, Tryz.ntmps155
  go_wp2_with fail
  refine HN.out.mono ?_
  rintro e w1 ⟨rfl, hb1⟩
  have hs1 := hb1.size
  have H1 := Lib.hid (isW_below H.out hb1)
  rw [cnT_ba]
  go_wp2_with fail
  refine (write_w B bs (cnL n) w1 H1.out (by omega) (by omega)).mono ?_
  rintro e w2 ⟨rfl, h2, hb2, hk2⟩
  have HR := Lib.hid (show isW B (bs ++ cnL n) w2 ∧ Below B w w2 ∧ KeepB B w w2 from ⟨h2, (hb1.mono (by omega)).trans hb2, (KeepB.of_below hb1).trans hk2⟩)
  clear h2 hb2 hk2
  go_wp2_with fail
  go_end0
  exact ⟨rfl, HR.out⟩
/-- what Press keeps while it goes: the text's box, num's box, from's box, the finder -/
structure PressAt (B q1 q5 q7 f gp : Nat) (S : List UInt8) (from_ : Nat) (F : Fd) (w : World) : Prop where
  text : Blk w q1 [.string (ba S)] 9
  num : Blk w q5 [.func (.func 155) #[] #[.pointer (some ⟨B, 0, none⟩)]] 139
  from_ : Blk w q7 [.int .i64 (from_ : Int)] 3
  fd : FdAt w f gp S F
theorem PressAt.keep {B q1 q5 q7 f gp : Nat} {S : List UInt8} {from_ : Nat} {F : Fd} {w w' : World} (h : PressAt B q1 q5 q7 f gp S from_ F w) (hk : KeepB B w w') (hn : B ≠ q1 ∧ B ≠ q5 ∧ B ≠ q7 ∧ B ≠ f ∧ B ≠ gp) : PressAt B q1 q5 q7 f gp S from_ F w' :=
  ⟨hk _ _ _ (Ne.symm hn.1) (by decide) h.text, hk _ _ _ (Ne.symm hn.2.1) (by decide) h.num, hk _ _ _ (Ne.symm hn.2.2.1) (by decide) h.from_, ⟨hk _ _ _ (Ne.symm hn.2.2.2.1) (by decide) h.fd.blk, hk _ _ _ (Ne.symm hn.2.2.2.2) (by decide) h.fd.row, h.fd.ok⟩⟩
theorem PressAt.touch {B q1 q5 q7 f gp : Nat} {S : List UInt8} {from_ : Nat} {F F' : Fd} {w w' : World} (h : PressAt B q1 q5 q7 f gp S from_ F w) (ht : Touch (InFd f gp) w w') (hF : FdAt w' f gp S F') (h7 : q7 ≠ f ∧ q7 ≠ gp) : PressAt B q1 q5 q7 f gp S from_ F' w' :=
  ⟨h.text.touch ht (fun e => e.elim (fun e => h.text.ne h.fd.blk (by decide) e) (fun e => h.text.ne h.fd.row (by decide) e)), h.num.touch ht (fun e => e.elim (fun e => h.num.ne h.fd.blk (by decide) e) (fun e => h.num.ne h.fd.row (by decide) e)), h.from_.touch ht (fun e => e.elim h7.1 h7.2), hF⟩
theorem PressAt.store {B q1 q5 q7 f gp : Nat} {S : List UInt8} {from_ : Nat} {F : Fd} {w : World} (h : PressAt B q1 q5 q7 f gp S from_ F w) (n : Nat) (h7 : q7 ≠ f ∧ q7 ≠ gp) : PressAt B q1 q5 q7 f gp S n F (w.setCell ⟨q7, 0, none⟩ (.int .i64 (n : Int))) :=
  ⟨h.text.set_other (a := ⟨q7, 0, none⟩) (fun e => h.text.ne h.from_ (by decide) e) _, h.num.set_other (a := ⟨q7, 0, none⟩) (fun e => h.num.ne h.from_ (by decide) e) _, h.from_.set 0 _,
    ⟨h.fd.blk.set_other (a := ⟨q7, 0, none⟩) (Ne.symm h7.1) _, h.fd.row.set_other (a := ⟨q7, 0, none⟩) (Ne.symm h7.2) _, h.fd.ok⟩⟩
theorem plainTok_len (S : List UInt8) (a b : Nat) (h : b ≤ 1048576) : (plainTok S a b).length ≤ 9 + (b - a) := by
  unfold plainTok
  by_cases hlt : a < b
  · rw [if_pos hlt, List.length_append, List.length_take]
    have := cnL_le (n := 2 * (b - a)) (by omega)
    omega
  · rw [if_neg hlt]; exact Nat.zero_le _
theorem isW_fd {B f gp : Nat} {bs : List UInt8} {S : List UInt8} {F : Fd} {w w' : World} (h : isW B bs w) (ht : Touch (InFd f gp) w w') (hF : FdAt w f gp S F) : isW B bs w' :=
  isW_touch h ht (fun k hk => by
    rcases hk with rfl | rfl
    · exact ⟨_, _, hF.blk, by decide, by decide⟩
    · exact ⟨_, _, hF.row, by decide, by decide⟩)
theorem isW_store {B q : Nat} {bs : List UInt8} {w : World} {cs : List Value} (h : isW B bs w) (hq : Blk w q cs 3) (v : Value) : isW B bs (w.setCell ⟨q, 0, none⟩ v) :=
  isW_touch h (touchB (o := 0) (Touch.refl (fun k => k = q) w) v) (fun k hk => by
    subst hk
    exact ⟨_, _, hq, by decide, by decide⟩)
theorem toks_zero {S : List UInt8} {fu at_ from_ back : Nat} {F F' : Fd} (h : F.longest S at_ = ((back, 0), F')) (hlt : at_ < S.length) : pressToks S (fu + 1) at_ from_ F = pressToks S fu (at_ + 1) from_ F' := by
  rw [pressToks, if_pos hlt, h]; rfl
theorem toks_copy {S : List UInt8} {fu at_ from_ back n : Nat} {F F' : Fd} (h : F.longest S at_ = ((back, n), F')) (hlt : at_ < S.length) (hn : n ≠ 0) : pressToks S (fu + 1) at_ from_ F = plainTok S from_ at_ ++ (cnL (2 * (n - 4) + 1) ++ (cnL (back - 1) ++ pressToks S fu (at_ + n) (at_ + n) F')) := by
  rw [pressToks, if_pos hlt, h]
  show (if n = 0 then _ else _) = _
  rw [if_neg hn]
theorem toks_end {S : List UInt8} {fu at_ from_ : Nat} {F : Fd} (hlt : ¬ at_ < S.length) : pressToks S (fu + 1) at_ from_ F = plainTok S from_ S.length := by
  rw [pressToks, if_neg hlt]
set_option maxRecDepth 100000 in
set_option maxHeartbeats 2000000 in
theorem pressPlain_any (B q1 q5 q7 f gp : Nat) (S : List UInt8) (from_ to_ : Nat) (F : Fd) (bs : List UInt8) (w : World) (h : PressAt B q1 q5 q7 f gp S from_ F w) (hB : isW B bs w) (hn : B ≠ q1 ∧ B ≠ q5 ∧ B ≠ q7 ∧ B ≠ f ∧ B ≠ gp)
    (hS : S.length ≤ 1099511627) (ht : to_ ≤ S.length) (hlen : bs.length ≤ 1000000000) :
    Calls Tryz.prog 156 #[.int .i64 (to_ : Int), .pointer (some ⟨q7, 0, none⟩), .pointer (some ⟨q5, 0, none⟩), .pointer (some ⟨B, 0, none⟩), .pointer (some ⟨q1, 0, none⟩)] w fun e w' => e = .returned (.tuple #[]) ∧ isW B (bs ++ plainTok S from_ to_) w' ∧ PressAt B q1 q5 q7 f gp S from_ F w' ∧ Below B w w' := by
  have Hh := Lib.hid h
  have HB := Lib.hid hB
  have Hn := Lib.hid hn
  have c1 : w.cell? ⟨q1, 0, none⟩ = some (.string (ba S)) := h.text.cell 0
  have c5 : w.cell? ⟨q5, 0, none⟩ = some (.func (.func 155) #[] #[.pointer (some ⟨B, 0, none⟩)]) := h.num.cell 0
  have c7 : w.cell? ⟨q7, 0, none⟩ = some (.int .i64 (from_ : Int)) := h.from_.cell 0
  have hsz := ba_size S
  clear h hB hn
  by_cases hlt : from_ < to_
  · have HT := Lib.hid (show plainTok S from_ to_ = cnL (2 * (to_ - from_)) ++ (S.drop from_).take (to_ - from_) by unfold plainTok; rw [if_pos hlt])
    obtain ⟨d, hd⟩ : ∃ d, d = to_ - from_ := ⟨_, rfl⟩
    have hw1 : IntKind.i64.wrap ((to_ : Int) - (from_ : Int)) = (d : Int) := by rw [IntKind.wrap_i64]; omega
    obtain ⟨d2, hd2⟩ : ∃ d2, d2 = 2 * d := ⟨_, rfl⟩
    have hw2 : IntKind.i64.wrap (2 * (d : Int)) = (d2 : Int) := by rw [IntKind.wrap_i64]; omega
    have hdS : d ≤ S.length := by omega
    rw [← hd, ← hd2] at HT
    have Hd := Lib.hid hd
    have hd2S : d2 ≤ 2 * S.length := by omega
    clear hd hd2
    have hcl := cnL_le (n := d2) (by omega)
    have HN := Lib.hid (pressNum_any B d2 bs w HB.out (by omega) (by omega))
    go_enter Tryz.func156, Tryz.ntmps156
    go_wp2_with fail
    refine HN.out.mono ?_
    rintro e w1 ⟨rfl, hB1, hb1, hk1⟩
    have HB1 := Lib.hid hB1
    have HP1 := Lib.hid (Hh.out.keep hk1 Hn.out)
    have Hb1 := Lib.hid hb1
    clear hB1 hb1 hk1 HN c1 c5 c7
    have c1 : w1.cell? ⟨q1, 0, none⟩ = some (.string (ba S)) := HP1.out.text.cell 0
    have c7 : w1.cell? ⟨q7, 0, none⟩ = some (.int .i64 (from_ : Int)) := HP1.out.from_.cell 0
    go_wp2_with fail
    rw [ba_slice S from_ to_, ← Hd.out]
    have hl := (show ((S.drop from_).take d).length ≤ S.length by rw [List.length_take, List.length_drop]; omega)
    have hBw := isW_lt HB1.out
    refine (write_w B (bs ++ cnL d2) ((S.drop from_).take d) w1 HB1.out (by rw [List.length_append]; omega) (by omega)).mono ?_
    rintro e w2 ⟨rfl, hB2, hb2, hk2⟩
    have HB2 := Lib.hid (show isW B (bs ++ plainTok S from_ to_) w2 by rw [HT.out, ← List.append_assoc]; exact hB2)
    have HP2 := Lib.hid (HP1.out.keep hk2 Hn.out)
    have Hb2 := Lib.hid (Hb1.out.trans hb2)
    clear hB2 hb2 hk2 HB1 HP1 Hb1 c1 c7 hl
    go_wp2_with fail
    go_end0
    exact ⟨rfl, HB2.out, HP2.out, Hb2.out⟩
  · have HT := Lib.hid (show plainTok S from_ to_ = [] by unfold plainTok; rw [if_neg hlt])
    go_enter Tryz.func156, Tryz.ntmps156
    go_wp2_with fail
    go_end0
    rw [HT.out, List.append_nil]
    exact ⟨rfl, HB.out, Hh.out, Below.refl _ _⟩
set_option maxRecDepth 100000 in
theorem zero_finder : Tryz.zeroCells225 = (Value.string ⟨#[]⟩ :: (List.replicate 4096 (Value.int .i64 0) ++ [.slice none 0 0, .int .i64 0])).toArray := by kernel_rfl
theorem fd_zero (S : List UInt8) (gp : Nat) : (Tryz.zeroCells225.setIfInBounds 0 (.string (ba S))).setIfInBounds 4097 (.slice (some ⟨gp, 0, none⟩) S.length S.length) = (fdVals S (Fd.new S) gp).toArray := by
  rw [zero_finder, List.setIfInBounds_toArray, List.setIfInBounds_toArray, List.set_cons_zero, show 4097 = 4096 + 1 from rfl, List.set_cons_succ, List.set_append_right _ _ (by rw [List.length_replicate]; exact Nat.le_refl _), List.length_replicate, Nat.sub_self]
  unfold fdVals Fd.new
  rw [List.map_replicate]
  rfl
theorem fd_start (S : List UInt8) (w : World) : FdAt ((w.alloc (.cells (Array.replicate S.length (.int .i64 0)) 3)).alloc (.cells ((Tryz.zeroCells225.setIfInBounds 0 (.string (ba S))).setIfInBounds 4097 (.slice (some ⟨w.heap.size, 0, none⟩) S.length S.length)) 225)).drew (w.heap.size + 1) w.heap.size S (Fd.new S) := by
  refine ⟨?_, ?_, Fd.new_ok S⟩
  · have h := Blk.new (w.alloc (.cells (Array.replicate S.length (.int .i64 0)) 3)) (fdVals S (Fd.new S) w.heap.size) 225
    rw [World.size_alloc, ← fd_zero] at h
    exact h.drew
  · have h := (Blk.new w (List.replicate S.length (.int .i64 0)) 3).alloc (.cells ((Tryz.zeroCells225.setIfInBounds 0 (.string (ba S))).setIfInBounds 4097 (.slice (some ⟨w.heap.size, 0, none⟩) S.length S.length)) 225)
    rw [List.toArray_replicate] at h
    have e : (Fd.new S).prev.map iv = List.replicate S.length (.int .i64 0) := by unfold Fd.new; rw [List.map_replicate]; rfl
    rw [e]
    exact h.drew
set_option maxRecDepth 100000 in
set_option maxHeartbeats 8000000 in
theorem press_any (S : List UInt8) (w : World) (hS : S.length ≤ 1048576) :
    Calls Tryz.prog 130 #[.string (ba S)] w fun e w' => e = .returned (.tuple #[.string (ba (press S)), .int .i64 0]) ∧ Below w.heap.size w w' := by
  have hmf : ∀ (fn : Fn) (first cap : Array Value) (w : World), (Instr.makeFunc fn first cap).run Tryz.prog w = .ok (.func fn first cap) w := fun _ _ _ _ => rfl
  have hsz := ba_size S
  have hmk := fun W => run_make_one (P := Tryz.prog) 130 3 (.int .i64 0) 8 Tryz.underlying130 info_i64 rfl S.length (by omega) (by omega) W
  go_enter Tryz.func130, Tryz.ntmps130
  go_upto_region 4 with fail
  have HQ1 := Lib.hid ((Blk.new w [.string (ba S)] 9).alloc (.cells #[.pointer none, .slice none 0 0] 134))
  have HW1 := Lib.hid (show isW (w.heap.size + 1) [] ((w.alloc (.cells #[.string (ba S)] 9)).alloc (.cells #[.pointer none, .slice none 0 0] 134)) by
    have h := isW_new (w.alloc (.cells #[.string (ba S)] 9))
    rw [World.size_alloc] at h
    exact h)
  have HB1 := Lib.hid (((Below.refl w.heap.size w).alloc (Nat.le_refl _) (.cells #[.string (ba S)] 9)).alloc (by simp) (.cells #[.pointer none, .slice none 0 0] 134))
  have hz1 : ((w.alloc (.cells #[.string (ba S)] 9)).alloc (.cells #[.pointer none, .slice none 0 0] 134)).heap.size = w.heap.size + 1 + 1 := by simp
  have hq1 : w.heap.size < w.heap.size + 1 := Nat.lt_succ_self _
  generalize (w.alloc (.cells #[.string (ba S)] 9)).alloc (.cells #[.pointer none, .slice none 0 0] 134) = w1 at HQ1 HW1 HB1 hz1 ⊢
  obtain ⟨B, hB⟩ : ∃ B, B = w.heap.size + 1 := ⟨_, rfl⟩
  rw [← hB] at HW1 hz1 hq1 ⊢
  obtain ⟨q1, hq⟩ : ∃ q1, q1 = w.heap.size := ⟨_, rfl⟩
  rw [← hq] at HQ1 hq1 ⊢
  have hzz : w1.heap.size = B + 1 := hz1
  have HBq := Lib.hid (And.intro hB hq)
  clear hB hq hz1
  have Hzz := Lib.hid hzz
  clear hzz
  have a1 : (w1.alloc (.cells #[.nilFunc] 139)).cell? ⟨w1.heap.size, 0, none⟩ = some .nilFunc := (Blk.new w1 [.nilFunc] 139).cell 0
  have a2 : (w1.alloc (.cells #[.nilFunc] 139)).frozen? ⟨w1.heap.size, 0, none⟩ = false := (Blk.new w1 [.nilFunc] 139).free 0
  have a3 : w1.heap.size < (w1.alloc (.cells #[.nilFunc] 139)).heap.size := by simp
  have HQ5 := Lib.hid (Blk.new w1 [.func (.func 155) #[] #[.pointer (some ⟨B, 0, none⟩)]] 139)
  have hbs : Below w1.heap.size w1 (w1.alloc (.cells #[.func (.func 155) #[] #[.pointer (some ⟨B, 0, none⟩)]] 139)) := (Below.refl _ _).alloc (Nat.le_refl _) _
  have HQ1b := Lib.hid (HQ1.out.below hbs)
  have HW1b := Lib.hid (isW_below HW1.out hbs)
  have HB1b := Lib.hid (HB1.out.trans (hbs.mono HB1.out.size))
  have hz5 : B < w1.heap.size := by have := Hzz.out; omega
  obtain ⟨q5, hq5⟩ : ∃ q5, w1.heap.size = q5 := ⟨_, rfl⟩
  rw [hq5] at a1 a2 a3 HQ5 hz5
  clear hbs HQ1 HW1 HB1
  go_upto_region 5 with fail
  generalize w1.alloc (.cells #[.func (.func 155) #[] #[.pointer (some ⟨B, 0, none⟩)]] 139) = w2 at HQ5 HQ1b HW1b HB1b ⊢
  clear a1 a2 a3
  have Hq5 := Lib.hid hq5
  clear hq5
  have c1 : w2.cell? ⟨q1, 0, none⟩ = some (.string (ba S)) := HQ1b.out.cell 0
  have c5 : w2.cell? ⟨q5, 0, none⟩ = some (.func (.func 155) #[] #[.pointer (some ⟨B, 0, none⟩)]) := HQ5.out.cell 0
  go_wp2_with fail
  refine (pressNum_any B S.length [] w2 HW1b.out (by omega) (by simp)).mono ?_
  rintro e w3 ⟨rfl, hW3, hb3, hk3⟩
  have HW3 := Lib.hid hW3
  have HQ1c := Lib.hid (hk3 q1 _ _ (by omega) (by decide) HQ1b.out)
  have HQ5c := Lib.hid (hk3 q5 _ _ (by omega) (by decide) HQ5.out)
  have HB3 := Lib.hid (show Below w.heap.size w w3 from HB1b.out.trans (hb3.mono (by have := HBq.out.1; omega)))
  have hlt5 := HQ5c.out.lt
  clear hW3 hb3 hk3 HQ1b HQ5 HW1b HB1b c1 c5
  have c1 : w3.cell? ⟨q1, 0, none⟩ = some (.string (ba S)) := HQ1c.out.cell 0
  have hbn : Below w3.heap.size w3 (w3.alloc (.cells (Array.replicate S.length (.int .i64 0)) 3)) := (Below.refl _ _).alloc (Nat.le_refl _) _
  have c1n : (w3.alloc (.cells (Array.replicate S.length (.int .i64 0)) 3)).cell? ⟨q1, 0, none⟩ = some (.string (ba S)) := (HQ1c.out.below hbn).cell 0
  clear hbn
  go_upto_region 6 with fail
  go_region
  have HF4 := Lib.hid (fd_start S w3)
  have hb4 : Below w3.heap.size w3 ((w3.alloc (.cells (Array.replicate S.length (.int .i64 0)) 3)).alloc (.cells ((Tryz.zeroCells225.setIfInBounds 0 (.string (ba S))).setIfInBounds 4097 (.slice (some ⟨w3.heap.size, 0, none⟩) S.length S.length)) 225)).drew := (((Below.refl _ _).alloc (Nat.le_refl _) _).alloc (by simp) _).drew
  have hl4 : w3.heap.size + 1 < ((w3.alloc (.cells (Array.replicate S.length (.int .i64 0)) 3)).alloc (.cells ((Tryz.zeroCells225.setIfInBounds 0 (.string (ba S))).setIfInBounds 4097 (.slice (some ⟨w3.heap.size, 0, none⟩) S.length S.length)) 225)).drew.heap.size := by
    show _ < ((w3.alloc _).alloc _).heap.size
    simp
  generalize ((w3.alloc (.cells (Array.replicate S.length (.int .i64 0)) 3)).alloc (.cells ((Tryz.zeroCells225.setIfInBounds 0 (.string (ba S))).setIfInBounds 4097 (.slice (some ⟨w3.heap.size, 0, none⟩) S.length S.length)) 225)).drew = w4 at HF4 hb4 hl4 ⊢
  have HW4 := Lib.hid (isW_below HW3.out hb4)
  have HQ1d := Lib.hid (HQ1c.out.below hb4)
  have HQ5d := Lib.hid (HQ5c.out.below hb4)
  have HB4 := Lib.hid (HB3.out.trans (hb4.mono HB3.out.size))
  have hgB : B < w3.heap.size := isW_lt HW3.out
  clear c1n c1 hb4 HW3 HQ1c HQ5c HB3
  generalize Tryz.zeroCells225 = zc
  obtain ⟨gp, hgp⟩ : ∃ gp, w3.heap.size = gp := ⟨_, rfl⟩
  rw [hgp] at HF4 hl4 hgB hlt5 ⊢
  have Hgp := Lib.hid hgp
  clear hgp
  obtain ⟨f, hf⟩ : ∃ f, gp + 1 = f := ⟨_, rfl⟩
  rw [hf] at HF4 hl4 ⊢
  have hgf : gp < f := by omega
  have Hf := Lib.hid hf
  clear hf
  go_upto_region 9 with fail
  have HQ7 := Lib.hid (Blk.new w4 [.int .i64 0] 3)
  have hb5 : Below w4.heap.size w4 (w4.alloc (.cells #[.int .i64 0] 3)) := (Below.refl _ _).alloc (Nat.le_refl _) _
  have HP5 := Lib.hid (show PressAt B q1 q5 w4.heap.size f gp S 0 (Fd.new S) (w4.alloc (.cells #[.int .i64 0] 3)) from ⟨HQ1d.out.below hb5, HQ5d.out.below hb5, HQ7.out, HF4.out.below hb5⟩)
  have HW5 := Lib.hid (isW_below HW4.out hb5)
  have HB5 := Lib.hid (HB4.out.trans (hb5.mono HB4.out.size))
  clear hb5 HQ7 HQ1d HQ5d HF4 HW4 HB4
  generalize w4.alloc (.cells #[.int .i64 0] 3) = w5 at HP5 HW5 HB5 ⊢
  generalize w4.heap.size = q7 at hl4 HP5 ⊢
  generalize Value.agg _ = junk
  have Hne := Lib.hid (show (B ≠ q1 ∧ B ≠ q5 ∧ B ≠ q7 ∧ B ≠ f ∧ B ≠ gp) ∧ (q7 ≠ f ∧ q7 ≠ gp) by omega)
  have HBw := Lib.hid (show w.heap.size ≤ B ∧ w.heap.size ≤ f ∧ w.heap.size ≤ gp ∧ w.heap.size ≤ q7 by have := HBq.out.1; omega)
  clear hq1 HBq Hzz hz5 Hq5 hlt5 hgB Hgp hl4 hgf Hf
  have hcS := cnL_le (n := S.length) (by omega)
  go_wp2_with fail
  go_loopw [9] (fun av wr => ∃ (at_ from_ fu : Nat) (F : Fd) (bs : List UInt8), av = .int .i64 (at_ : Int) ∧ at_ ≤ S.length ∧ from_ ≤ at_ ∧ S.length < fu + at_ ∧ bs.length + (at_ - from_) ≤ 40 * at_ + 20 ∧ Hid (PressAt B q1 q5 q7 f gp S from_ F wr) ∧ Hid (isW B bs wr) ∧ Hid (Below w.heap.size w wr) ∧ Hid (F.done ≤ at_) ∧ Hid (bs ++ pressToks S fu at_ from_ F = press S)) (fun av _ => S.length - (intOf av).toNat)
  case atStart => exact ⟨0, 0, S.length + 1, Fd.new S, _, rfl, Nat.zero_le _, Nat.le_refl _, by omega, by simp; omega, HP5, HW5, HB5, Lib.hid (Nat.le_refl _), Lib.hid rfl⟩
  case round =>
    obtain ⟨at_, from_, fu, F, bs, rfl, hat, hfr, hfu, hlen, HP, HW, HBr, Hdn, HE⟩ := hrel
    clear HP5 HW5 HB5
    obtain ⟨fu, rfl⟩ : ∃ k, fu = k + 1 := ⟨fu - 1, by omega⟩
    have c1 : wr.cell? ⟨q1, 0, none⟩ = some (.string (ba S)) := HP.out.text.cell 0
    by_cases hlt : at_ < S.length
    · have HLg := Lib.hid (longest_any f gp S F at_ wr HP.out.fd (by omega) hat Hdn.out)
      have HOk := Lib.hid (Fd.longest_ok at_ HP.out.fd.ok Hdn.out hat)
      obtain ⟨r, hr⟩ : ∃ r, r = F.longest S at_ := ⟨_, rfl⟩
      rw [← hr] at HLg HOk
      have Hr := Lib.hid hr
      clear hr
      obtain ⟨⟨back, n⟩, F'⟩ := r
      go_wp2_with fail
      refine HLg.out.mono ?_
      rintro e w6 ⟨rfl, hF6, hT6⟩
      have HP6 := Lib.hid (HP.out.touch hT6 hF6 Hne.out.2)
      have HW6 := Lib.hid (isW_fd HW.out hT6 HP.out.fd)
      have HB6 := Lib.hid (HBr.out.trans (hT6.below HBr.out.size (fun k hk hi => by have := HBw.out; rcases hi with rfl | rfl <;> omega)))
      have hdn6 := HOk.out.2.1
      clear hF6 hT6 HLg HP HW HBr c1
      by_cases hn0 : n = 0
      · subst hn0
        have HE6 := Lib.hid (show bs ++ pressToks S fu (at_ + 1) from_ F' = press S by rw [← HE.out, toks_zero Hr.out.symm hlt])
        have HD6 := Lib.hid (show F'.done ≤ at_ + 1 from Nat.le_succ_of_le hdn6)
        clear HE hdn6
        go_wp2_with fail
        go_roundw
        case rel => exact ⟨at_ + 1, from_, fu, F', bs, by go_num, by omega, by omega, by omega, by omega, HP6, HW6, HB6, HD6, HE6⟩
        case measure => simp [intOf]; omega
      · obtain ⟨h4, hG⟩ := HOk.out.2.2.resolve_left hn0
        obtain ⟨b1, b2, b3, b4, b5, _⟩ := hG
        simp only at h4 b1 b2 b3 b4 b5
        have hn0' : ((n : Int) == 0) = false := by rw [beq_eq_false_iff_ne]; omega
        have HE6 := Lib.hid (show bs ++ (plainTok S from_ at_ ++ (cnL (2 * (n - 4) + 1) ++ (cnL (back - 1) ++ pressToks S fu (at_ + n) (at_ + n) F'))) = press S by rw [← HE.out, toks_copy Hr.out.symm hlt hn0])
        have hpt := plainTok_len S from_ at_ (by omega)
        have HPl := Lib.hid (pressPlain_any B q1 q5 q7 f gp S from_ at_ F' bs w6 HP6.out HW6.out Hne.out.1 (by omega) hat (by omega))
        have Hd6 := Lib.hid (show F'.done ≤ at_ + n by omega)
        obtain ⟨m, hm⟩ : ∃ m, m = 2 * (n - 4) + 1 := ⟨_, rfl⟩
        obtain ⟨c, hc⟩ : ∃ c, c = back - 1 := ⟨_, rfl⟩
        have hw1 : IntKind.i64.wrap ((n : Int) - 4) = (n : Int) - 4 := by rw [IntKind.wrap_i64]; omega
        rw [← hm, ← hc] at HE6
        have hmi : ((m : Nat) : Int) = 2 * ((n : Int) - 4) + 1 := by omega
        have hci : ((c : Nat) : Int) = (back : Int) - 1 := by omega
        have hcm := cnL_le (n := m) (by omega)
        have hcc := cnL_le (n := c) (by omega)
        have Hm := Lib.hid hmi
        have Hc := Lib.hid hci
        have hmb : m ≤ 1000 := by omega
        have hcb : c ≤ 5000 := by omega
        clear hm hc hmi hci HE hdn6 HOk Hr hn0
        go_wp2_with fail
        refine HPl.out.mono ?_
        rintro e w7 ⟨rfl, hW7, hP7, hb7⟩
        have HW7 := Lib.hid hW7
        have HP7 := Lib.hid hP7
        have HB7 := Lib.hid (HB6.out.trans (hb7.mono HBw.out.1))
        clear hW7 hP7 hb7 HW6 HP6 HB6 HPl
        have c5 : w7.cell? ⟨q5, 0, none⟩ = some (.func (.func 155) #[] #[.pointer (some ⟨B, 0, none⟩)]) := HP7.out.num.cell 0
        have HN := Lib.hid (pressNum_any B m (bs ++ plainTok S from_ at_) w7 HW7.out (by omega) (by rw [List.length_append]; omega))
        go_wp2_with fail
        rw [← Hm.out]
        refine HN.out.mono ?_
        rintro e w8 ⟨rfl, hW8, hb8, hk8⟩
        have HW8 := Lib.hid hW8
        have HP8 := Lib.hid (HP7.out.keep hk8 Hne.out.1)
        have HB8 := Lib.hid (HB7.out.trans (hb8.mono HBw.out.1))
        clear hW8 hb8 hk8 HW7 HP7 HB7 HN c5
        have c5 : w8.cell? ⟨q5, 0, none⟩ = some (.func (.func 155) #[] #[.pointer (some ⟨B, 0, none⟩)]) := HP8.out.num.cell 0
        have HN := Lib.hid (pressNum_any B c (bs ++ plainTok S from_ at_ ++ cnL m) w8 HW8.out (by omega) (by rw [List.length_append, List.length_append]; omega))
        go_wp2_with fail
        rw [← Hc.out]
        refine HN.out.mono ?_
        rintro e w9 ⟨rfl, hW9, hb9, hk9⟩
        have HW9 := Lib.hid hW9
        have HP9 := Lib.hid (HP8.out.keep hk9 Hne.out.1)
        have HB9 := Lib.hid (HB8.out.trans (hb9.mono HBw.out.1))
        clear hW9 hb9 hk9 HW8 HP8 HB8 HN c5
        have c7 : w9.cell? ⟨q7, 0, none⟩ = some (.int .i64 (from_ : Int)) := HP9.out.from_.cell 0
        have f7 := HP9.out.from_.free 0
        have l7 := HP9.out.from_.lt
        obtain ⟨z, hz⟩ : ∃ z, z = at_ + n := ⟨_, rfl⟩
        have hzi : IntKind.i64.wrap ((at_ : Int) + (n : Int)) = (z : Int) := by rw [IntKind.wrap_i64]; omega
        have HPz := Lib.hid (HP9.out.store z Hne.out.2)
        have HWz := Lib.hid (isW_store HW9.out HP9.out.from_ (.int .i64 (z : Int)))
        have HBz := Lib.hid (HB9.out.setCell (p := ⟨q7, 0, none⟩) HBw.out.2.2.2 (.int .i64 (z : Int)))
        rw [← hz] at Hd6 HE6
        have Hz := Lib.hid hz
        clear hz HW9 HP9 HB9
        go_wp2_with fail
        go_roundw
        case rel => exact ⟨z, z, fu, F', bs ++ plainTok S from_ at_ ++ cnL m ++ cnL c, by go_num, by have := Hz.out; omega, Nat.le_refl _, by have := Hz.out; omega, by rw [List.length_append, List.length_append, List.length_append]; have := Hz.out; omega, HPz, HWz, HBz, Hd6, Lib.hid (by rw [← HE6.out]; simp only [List.append_assoc])⟩
        case measure => simp [intOf]; have := Hz.out; omega
    · have HE6 := Lib.hid (show bs ++ plainTok S from_ S.length = press S by rw [← HE.out, toks_end hlt])
      have HPl := Lib.hid (pressPlain_any B q1 q5 q7 f gp S from_ S.length F bs wr HP.out HW.out Hne.out.1 (by omega) (Nat.le_refl _) (by omega))
      clear HE
      go_wp2_with fail
      refine HPl.out.mono ?_
      rintro e w7 ⟨rfl, hW7, hP7, hb7⟩
      rw [HE6.out] at hW7
      have HW7 := Lib.hid hW7
      have HB7 := Lib.hid (HBr.out.trans (hb7.mono HBw.out.1))
      clear hW7 hP7 hb7 HW HP HBr HPl c1
      go_wp2_with fail
      refine (string_w B (press S) w7 HW7.out).mono ?_
      rintro e w8 ⟨rfl, hb8⟩
      have HB8 := Lib.hid (HB7.out.trans (hb8.mono HBw.out.1))
      go_wp2_with fail
      go_ret2
      exact ⟨rfl, HB8.out⟩
end Go.Proofs.YtaemlplcjjbamaaGreatDoor
namespace Go.Proofs.YtaemlplcjjbamaaGreatDoor
open Go Go.RowKit
set_option linter.unusedVariables false
theorem ba_app (l m : List UInt8) : ba l ++ ba m = ba (l ++ m) := by
  apply ByteArray.ext
  apply Array.toList_inj.1
  rw [ByteArray.data_append]
  simp [ba]
theorem ba_cons (c : UInt8) (l : List UInt8) : (⟨#[c]⟩ : ByteArray) ++ ba l = ba (c :: l) := ba_app [c] l
set_option maxRecDepth 100000 in
set_option maxHeartbeats 2000000 in
theorem wrap_any (S : List UInt8) (w : World) (hS : S.length ≤ 1048576) :
    Calls Tryz.prog 115 #[.string (ba S)] w fun e w' => e = .returned (.tuple #[.string (ba (wrapL S)), .int .i64 0]) ∧ Below w.heap.size w w' := by
  have hsz := ba_size S
  have hsz2 := ba_size (press S)
  have HP := Lib.hid (press_any S w hS)
  by_cases hlt : (press S).length < S.length
  · have HE := Lib.hid (show wrapL S = 90 :: press S by unfold wrapL; rw [if_pos hlt])
    go_enter Tryz.func115, Tryz.ntmps115
    go_wp2_with fail
    refine HP.out.mono ?_
    rintro e w1 ⟨rfl, hb1⟩
    have HB := Lib.hid hb1
    go_wp2_with fail
    go_ret2
    rw [HE.out, ← ba_cons]
    exact ⟨rfl, HB.out⟩
  · have HE := Lib.hid (show wrapL S = 82 :: S by unfold wrapL; rw [if_neg hlt])
    go_enter Tryz.func115, Tryz.ntmps115
    go_wp2_with fail
    refine HP.out.mono ?_
    rintro e w1 ⟨rfl, hb1⟩
    have HB := Lib.hid hb1
    go_wp2_with fail
    go_ret2
    rw [HE.out, ← ba_cons]
    exact ⟨rfl, HB.out⟩
end Go.Proofs.YtaemlplcjjbamaaGreatDoor
namespace Go.Proofs.YtaemlplcjjbamaaGreatDoor
open Go Go.RowKit
set_option linter.unusedVariables false
theorem BookIs.self_ne {w : World} {k mb : Nat} {B : List ByteArray} (h : BookIs w k mb B) : k ≠ mb := by
  intro e
  obtain ⟨D, ⟨es, clock, k1, _⟩, _⟩ := h.own
  have hb : Blk w k _ _ := h.at_
  subst e
  unfold Blk at hb
  rw [k1] at hb
  cases hb
theorem dlBytes_len {bl sl : List UInt8} {O T : List UInt8} {l : List Stp} (hm : Mk O l T) (hb : bl.length = 32) (hs : sl.length = 32) (hO : O.length ≤ 524288) (hT : T.length ≤ 30000) : (dlBytes ⟨bl, sl, (T.length : Nat), l⟩).length ≤ 1048576 := by
  have h1 := stpsB_len hO l hm.ok
  have h2 : l.length ≤ T.length := by rw [← hm.out]; exact outS_count l hm.ok
  rw [hm.out] at h1
  have h3 := cnL_le (n := T.length) (by omega)
  have h4 := cnL_le (n := l.length) (by omega)
  unfold dlBytes
  simp only [List.length_append, Int.toNat_natCast]
  omega
theorem ba_data (s : ByteArray) : ∃ l : List UInt8, ba l = s ∧ l.length = s.size := ⟨s.data.toList, by cases s; simp [ba], by cases s; simp [ByteArray.size]⟩
/-- what packs a text by a delta -/
def Packed (Bk : List ByteArray) (O T s : List UInt8) : Prop := s.length < (wrapL T).length ∧ ∃ bl sl l, s = wrapL (dlBytes ⟨bl, sl, (T.length : Nat), l⟩) ∧ Mk O l T ∧ bl.length = 32 ∧ sl.length = 32 ∧ ba bl = markOf Bk (ba O) ∧ ba sl = markOf Bk (ba T) ∧ ba O ∈ Bk ∧ ba T ∈ Bk
def PackSays (kb mb : Nat) (B : List ByteArray) (O T : List UInt8) (w : World) (e : Ending) (w' : World) : Prop :=
  ∃ (s : List UInt8) (is_ : Bool) (Bk : List ByteArray), e = .returned (.tuple #[.string (ba s), .bool is_]) ∧ BookIs w' kb mb Bk ∧ Ext B Bk ∧ Bk.length ≤ B.length + O.length + T.length + 3 ∧ Touch (fun j => j = mb) w w' ∧ ((is_ = false ∧ s = wrapL T) ∨ (is_ = true ∧ Packed Bk O T s))
set_option maxRecDepth 100000 in
set_option maxHeartbeats 4000000 in
theorem pack_any (kb mb : Nat) (B : List ByteArray) (O T : List UInt8) (w : World) (hK : BookIs w kb mb B) (hne : kb ≠ mb) (hO : O.length ≤ 524288) (hT : T.length ≤ 30000) (hB : B.length ≤ 700000000) :
    Calls Tryz.prog 114 #[.pointer (some ⟨kb, 0, none⟩), .string (ba O), .string (ba T)] w (PackSays kb mb B O T w) := by
  have hOz := ba_size O
  have HW := Lib.hid (wrap_any T w (by omega))
  have HK := Lib.hid hK
  have HOf := Lib.hid (fun (b : Nat) (h1 : 16 ≤ b) (h2 : b ≤ 1024) w' (h : BookIs w' kb mb B) => dOf_any kb mb B O T b w' h hne hO (by omega) h1 h2 hB)
  clear hK hne
  obtain ⟨V, hV⟩ : ∃ V, V = wrapL T := ⟨_, rfl⟩
  rw [← hV] at HW
  have HV := Lib.hid hV
  have hVz := ba_size V
  clear hV
  go_enter Tryz.func114, Tryz.ntmps114
  go_wp2_with fail
  refine HW.out.mono ?_
  clear HW
  rintro e w1 ⟨rfl, hb1⟩
  have HK1 := Lib.hid (HK.out.below hb1)
  have HB1 := Lib.hid hb1
  clear hb1 HK
  have HSB := Lib.hid (signBlock_any (O.length : Int) w1)
  go_wp2_with fail
  refine HSB.out.mono ?_
  clear HSB
  rintro e w2 ⟨⟨b, rfl, hb1, hb2⟩, rfl⟩
  go_wp2_with fail
  refine (HOf.out b hb1 hb2 _ HK1.out).mono ?_
  clear HOf
  rintro e w3 ⟨dv, l, Bk, rfl, hr, hmk, hK3, hX3, hmO, hmT, hL3, hT3⟩
  obtain ⟨bl, hbl, hbz⟩ := ba_data (markOf Bk (ba O))
  obtain ⟨sl, hsl, hsz⟩ := ba_data (markOf Bk (ba T))
  rw [markOf_size] at hbz hsz
  rw [← hbl, ← hsl]
  have Hbl := Lib.hid hbl
  have Hsl := Lib.hid hsl
  have HBy := Lib.hid (fun w' (h : w'.ownsRow w1.heap.size 221 3 dv l.length (stpsV l)) => dBytes_any bl sl dv w1.heap.size O T l w' hbz hsz h hmk hO (by omega))
  have HWr := Lib.hid (fun w' => wrap_any (dlBytes ⟨bl, sl, (T.length : Nat), l⟩) w' (dlBytes_len hmk hbz hsz hO hT))
  have Hz := Lib.hid (And.intro hbz hsz)
  unfold dlV at HBy ⊢
  obtain ⟨da, dc, rfl⟩ := row_shape hr
  clear hbl hsl hbz hsz
  have hBa : Below w3.heap.size w3 (w3.alloc (.cells #[.string (ba bl), .string (ba sl), .int .i64 (T.length : Int), .slice da l.length dc] 196)) := (Below.refl _ w3).alloc (Nat.le_refl _) _
  have HQ := Lib.hid (Blk.new w3 [.string (ba bl), .string (ba sl), .int .i64 (T.length : Int), .slice da l.length dc] 196)
  have HT3 := Lib.hid ((Touch.of_below (S := fun j => j = mb) HB1.out).trans (hT3.trans (Touch.of_below hBa)))
  have HK3 := Lib.hid (hK3.below hBa)
  have HR3 := Lib.hid (ownsRow_below hr hBa)
  have HX3 := Lib.hid hX3
  have HmO := Lib.hid hmO
  have HmT := Lib.hid hmT
  have HL3 := Lib.hid hL3
  have Hmk := Lib.hid hmk
  clear hr hmk hK3 hX3 hmO hmT hL3 hT3 hBa HB1 HK1
  go_upto_region 3 with fail
  generalize w3.alloc (.cells #[.string (ba bl), .string (ba sl), .int .i64 (T.length : Int), .slice da l.length dc] 196) = w4 at HQ HT3 HK3 HR3 ⊢
  generalize w3.heap.size = qx at HQ ⊢
  have c0 : w4.cell? ⟨qx, 0, none⟩ = some (.string (ba bl)) := HQ.out.cell 0
  have c1 : w4.cell? ⟨qx, 1, none⟩ = some (.string (ba sl)) := HQ.out.cell 1
  have c2 : w4.cell? ⟨qx, 2, none⟩ = some (.int .i64 (T.length : Int)) := HQ.out.cell 2
  have c3 : w4.cell? ⟨qx, 3, none⟩ = some (.slice da l.length dc) := HQ.out.cell 3
  go_wp2_with fail
  refine (HBy.out _ HR3.out).mono ?_
  clear HBy
  rintro e w5 ⟨rfl, hb5⟩
  have HT5 := Lib.hid (HT3.out.trans (Touch.of_below hb5))
  have HK5 := Lib.hid (HK3.out.below hb5)
  clear hb5 c0 c1 c2 c3
  obtain ⟨D, hD⟩ : ∃ D, D = dlBytes ⟨bl, sl, (T.length : Nat), l⟩ := ⟨_, rfl⟩
  rw [← hD] at HWr ⊢
  have HD := Lib.hid hD
  clear hD
  obtain ⟨W, hW⟩ : ∃ W, W = wrapL D := ⟨_, rfl⟩
  rw [← hW] at HWr
  have HWd := Lib.hid hW
  have hWz := ba_size W
  clear hW
  go_wp2_with fail
  refine (HWr.out _).mono ?_
  clear HWr
  rintro e w6 ⟨rfl, hb6⟩
  have HT6 := Lib.hid (HT5.out.trans (Touch.of_below hb6))
  have HK6 := Lib.hid (HK5.out.below hb6)
  clear hb6 HT5 HK5 HT3 HK3 HR3 HQ
  by_cases hlt : W.length < V.length
  · have hlt1 : ¬ (V.length : Int) ≤ (W.length : Int) := by omega
    go_wp2_with fail
    go_ret2
    exact ⟨W, true, Bk, rfl, HK6.out, HX3.out, HL3.out, HT6.out, Or.inr ⟨rfl, by rw [← HV.out]; exact hlt, bl, sl, l, by rw [HWd.out, HD.out], Hmk.out, Hz.out.1, Hz.out.2, Hbl.out, Hsl.out, HmO.out, HmT.out⟩⟩
  · go_wp2_with fail
    go_ret2
    exact ⟨V, false, Bk, rfl, HK6.out, HX3.out, HL3.out, HT6.out, Or.inl ⟨rfl, HV.out⟩⟩
end Go.Proofs.YtaemlplcjjbamaaGreatDoor
