/- The walk of the statement's (*world).step, whatever was done before. Conditions: sizes. -/
import Derived.Test.YtkllnihhhgaojaaGreatDoorWalRows
import Derived.Test.YtkllnihhhgaojaaGreatDoorWalLaw
import Derived.BigQuiet
namespace Go.Proofs.YtkllnihhhgaojaaGreatDoor
open Go Go.RowKit
set_option linter.unusedVariables false

def nmL (P : PS) : List ByteArray := P.files.map PF.name
structure Gd (P : PS) : Prop where
  snd : Snd P
  most : P.most = 300
  nms : ∀ s ∈ nmL P, ∃ n, n < 100000000 ∧ s = wname n
theorem nm_wrGo : ∀ (m : Nat) (P : PS) (i a : Nat) (t : ByteArray), nmL (wrGo m P i a t).2 = nmL P ∧ (wrGo m P i a t).2.most = P.most
  | 0, P, i, a, t => ⟨rfl, rfl⟩
  | m + 1, P, i, a, t => by
    unfold wrGo
    split
    · exact ⟨rfl, rfl⟩
    · split
      · exact ⟨rfl, rfl⟩
      · obtain ⟨h1, h2⟩ := nm_wrGo m (wrStep P i a (t.extract 0 (room a t))) i (a + room a t) (t.extract (room a t) t.size)
        refine ⟨h1.trans ?_, h2⟩
        show (P.files.modify i _).map PF.name = P.files.map PF.name
        apply List.ext_getElem
        · simp
        · intro j h1 h2
          rw [List.getElem_map, List.getElem_map, List.getElem_modify]
          split <;> rfl
theorem nm_write (P : PS) (s : ByteArray) (a : Int) (t : ByteArray) : nmL (P.write s a t).2 = nmL P ∧ (P.write s a t).2.most = P.most := by
  unfold PS.write
  split
  · exact ⟨rfl, rfl⟩
  · split
    · exact ⟨rfl, rfl⟩
    · split
      · exact ⟨rfl, rfl⟩
      · split
        · exact ⟨rfl, rfl⟩
        · exact nm_wrGo _ _ _ _ _
theorem nm_lastF (p : DPiece) (n : Nat) (fs : List PF) : (fs.map (lastF p n)).map PF.name = fs.map PF.name := by
  rw [List.map_map]
  apply List.map_congr_left
  intro f hf
  show (lastF p n f).name = f.name
  unfold lastF
  split <;> rfl
theorem nm_syncF : ∀ (l : List DPiece) (fs : List PF), (syncF l fs).map PF.name = fs.map PF.name
  | [], fs => rfl
  | p :: l, fs => (nm_syncF l (fs.map (lastF p p.text.size))).trans (nm_lastF p _ fs)
theorem nm_crashF : ∀ (l : List (DPiece × Int)) (fs : List PF), (crashF l fs).map PF.name = fs.map PF.name
  | [], fs => rfl
  | q :: l, fs => (nm_crashF l (fs.map (lastF q.1 (fateN q.1 q.2)))).trans (nm_lastF q.1 _ fs)
theorem Gd.write {P : PS} (h : Gd P) (s : ByteArray) (a : Int) (t : ByteArray) : Gd (P.write s a t).2 := by
  obtain ⟨h1, h2⟩ := nm_write P s a t
  exact ⟨h.snd.write s a t, h2.trans h.most, by rw [h1]; exact h.nms⟩
theorem Gd.syncR {P : PS} (h : Gd P) : Gd P.syncR.2 := by
  refine ⟨h.snd.syncR, ?_, ?_⟩
  · unfold PS.syncR
    split <;> exact h.most
  · unfold PS.syncR
    split
    · exact h.nms
    · have e : nmL P.sync = nmL P := nm_syncF _ _
      show ∀ s ∈ nmL P.sync, _
      rw [e]
      exact h.nms
theorem Gd.crash {P : PS} (h : Gd P) (l : List Int) : Gd (P.crash l) := by
  refine ⟨h.snd.crash l, h.most, ?_⟩
  have e : nmL (P.crash l) = nmL P := by
    show ((crashF (P.wait.zip l) P.files).map seenF).map PF.name = _
    rw [List.map_map]
    exact (nm_crashF _ _)
  rw [e]
  exact h.nms
theorem Gd.arm {P : PS} (h : Gd P) (n : Int) : Gd (P.arm n).2 := by
  refine ⟨h.snd.arm n, ?_, ?_⟩
  · unfold PS.arm
    split
    · exact h.most
    · split <;> exact h.most
  · unfold PS.arm
    split
    · exact h.nms
    · split <;> exact h.nms
theorem Gd.remove {P : PS} (h : Gd P) (s : ByteArray) : Gd (P.remove s).2 := by
  refine ⟨h.snd.remove s, ?_, ?_⟩
  · unfold PS.remove
    split
    · exact h.most
    · split <;> exact h.most
  · unfold PS.remove
    split
    · exact h.nms
    · split
      · exact h.nms
      · intro s2 hs
        have hs2 : s2 ∈ (P.files.eraseIdx _).map PF.name := hs
        obtain ⟨f, hf, rfl⟩ := List.mem_map.1 hs2
        exact h.nms _ (List.mem_map.2 ⟨f, (List.eraseIdx_sublist _ _).subset hf, rfl⟩)
theorem Gd.create {P : PS} (h : Gd P) {n : Nat} (hn : n < 100000000) : Gd (P.create (wname n)).2 := by
  refine ⟨h.snd.create _, ?_, ?_⟩
  · unfold PS.create
    split
    · exact h.most
    · split
      · exact h.most
      · split <;> exact h.most
  · unfold PS.create
    split
    · exact h.nms
    · split
      · exact h.nms
      · split
        · exact h.nms
        · intro s2 hs
          have hs2 : s2 ∈ (P.files.take (lowerP P.files (wname n)) ++ (⟨P.made, wname n, [], []⟩ : PF) :: P.files.drop (lowerP P.files (wname n))).map PF.name := hs
          obtain ⟨f, hf, rfl⟩ := List.mem_map.1 hs2
          rcases List.mem_append.1 hf with h1 | h1
          · exact h.nms _ (List.mem_map.2 ⟨f, List.mem_of_mem_take h1, rfl⟩)
          · rcases List.mem_cons.1 h1 with rfl | h1
            · exact ⟨n, hn, rfl⟩
            · exact h.nms _ (List.mem_map.2 ⟨f, List.mem_of_mem_drop h1, rfl⟩)
theorem Gd.wput {P : PS} (h : Gd P) (B : List ByteArray) (L : LG) (c : UInt8) (texts : List ByteArray) : Gd (wput P B L c texts).P := by
  rcases hp : putAcc c texts B L.m [] with ⟨B', _ | ⟨t, m'⟩⟩
  · rw [wput_long hp]; exact h
  · by_cases hz : (P.write (wname L.n) L.e (textOf t)).1 = 0
    · rw [wput_ok hp hz]; exact h.write _ _ _
    · rw [wput_no hp hz]; exact h.write _ _ _
theorem Gd.begin {P : PS} (h : Gd P) (B : List ByteArray) {m : Nat} (hm : m < 100000000) (snap : List ByteArray) : Gd (wbegin P B m snap).P := by
  have h0 := h.create hm
  unfold wbegin
  split
  · exact h0
  · have h1 := h0.wput B ⟨m, 0, firstM m⟩ 83 snap
    generalize Go.Proofs.YtkllnihhhgaojaaGreatDoor.wput (P.create (wname m)).2 B ⟨m, 0, firstM m⟩ 83 snap = a at h1
    have h2 : Gd (wseal a).P := by
      unfold wseal
      split
      · exact h1.wput _ _ _ _
      · exact h1
    generalize wseal a = c at h2
    have h3 : Gd (wsync c).P := by
      unfold wsync
      split
      · exact h2.syncR
      · exact h2
    generalize wsync c = d at h3
    unfold wdrop
    split
    · exact h3.remove _
    · exact h3
theorem Gd.turn {P : PS} (h : Gd P) (B : List ByteArray) {L : LG} (hL : L.Ok) (snap : List ByteArray) : Gd (wturn P B L snap).P := by
  have hn := hL.n
  unfold wturn
  split
  · exact h
  · rename_i h9
    have hb := h.begin B (m := L.n + 1) (by omega) snap
    split
    · exact hb
    · exact hb.remove _
theorem Gd.wipe {P : PS} (h : Gd P) (L : LG) : Gd (wwipe P L).2 := by
  unfold wwipe
  split
  · exact h
  · split
    · exact h
    · split
      · exact h
      · split
        · exact h.write _ _ _
        · exact (h.write _ _ _).syncR
theorem Gd.removeBut (ns : List Nat) (n : Nat) : ∀ {P : PS}, Gd P → Gd (removeBut ns n P) := by
  induction ns with
  | nil => exact fun h => h
  | cons m ns ih => exact fun h => ih (by
      show Gd (if m ≠ n then _ else _)
      split
      · exact h.remove (wname m)
      · exact h)
theorem Gd.open {P : PS} (h : Gd P) (B : List ByteArray) : Gd (wopen P B).P := by
  unfold wopen
  split
  · exact h
  · generalize segsP P = all
    have key : ∀ r, Gd (openGo all P B r).P := by
      intro r
      induction r with
      | nil => exact h
      | cons m r ih =>
        cases hl : loadP P B m with
        | none => rw [openGo_none hl]; exact ih
        | some o =>
          cases hs : o.sealed with
          | false => rw [openGo_open hl hs]; exact ih
          | true =>
            rw [openGo_take hl hs]
            have hw := Gd.wipe (Gd.removeBut all m h) ⟨m, o.e, o.m⟩
            unfold wtake
            split
            · exact hw
            · exact hw
    exact key all
end Go.Proofs.YtkllnihhhgaojaaGreatDoor
namespace Go.Proofs.YtkllnihhhgaojaaGreatDoor
open Go Go.RowKit
set_option linter.unusedVariables false

theorem arm_any (b : Nat) (S : DSt) (k : Int) (w : World) (h : DiskAt w b S) :
    Calls Tryz.prog 27 #[.pointer (some ⟨b, 0, none⟩), .int .i64 k] w fun e w' => e = .returned (.int .i64 (S.pl.arm k).1) ∧ ∃ S', Dev b S w S' w' ∧ S'.pl = (S.pl.arm k).2 := by
  cases ho : S.off with
  | true =>
    have e0 : S.pl.arm k = (14, S.pl) := if_pos ho
    rw [e0]
    refine (arm_off b S k w h ho).mono ?_
    rintro e w' ⟨rfl, rfl⟩
    exact ⟨rfl, S, Dev.refl h, rfl⟩
  | false =>
    have hno : ¬ (S.pl.off = true) := by show ¬ (S.off = true); rw [ho]; decide
    by_cases hk0 : k < 0
    · have e0 : S.pl.arm k = (1, S.pl) := by unfold PS.arm; rw [if_neg hno, if_pos hk0]
      rw [e0]
      refine (arm_low b S k w h ho hk0).mono ?_
      rintro e w' ⟨rfl, rfl⟩
      exact ⟨rfl, S, Dev.refl h, rfl⟩
    · have e0 : S.pl.arm k = (0, { S.pl with fuse := k }) := by unfold PS.arm; rw [if_neg hno, if_neg hk0]
      rw [e0]
      refine (arm_ok b S k w h ho (by omega)).mono ?_
      rintro e w' ⟨rfl, hD⟩
      exact ⟨rfl, _, hD, rfl⟩
theorem wfew_len (l : List ByteArray) : (wfew l).length ≤ 8 := by unfold wfew; rw [List.length_take]; omega
/-- a row of texts in a slot -/
def RowIs (x : Option Addr) (y : Nat) (l : List ByteArray) (w : World) : Prop := ∃ base, w.ownsRow base 9 1 (.slice x l.length y) l.length (strVals l)
theorem RowIs.keep {x : Option Addr} {y : Nat} {l : List ByteArray} {w w' : World} (h : RowIs x y l w) (hk : RK w w') : RowIs x y l w' := by
  obtain ⟨base, hr⟩ := h
  exact ⟨base, hk _ _ _ _ hr⟩
theorem RowIs.below {x : Option Addr} {y : Nat} {l : List ByteArray} {w w' : World} (h : RowIs x y l w) (hb : Below w.heap.size w w') : RowIs x y l w' := h.keep (RK.below hb)
theorem RowIs.strs {x : Option Addr} {y : Nat} {l : List ByteArray} {w : World} (h : RowIs x y l w) : StrsAt w x l := by
  obtain ⟨base, hr⟩ := h
  obtain ⟨ad, cap, e, hs⟩ := readsStrs_own (ss := l) hr
  injection e with e _ _
  subst e
  exact hs
theorem loadGo_out {B : List ByteArray} : ∀ (f : Nat) (o : LO) (l : List UInt8), o.out.length ≤ o.e → (loadGo B f o l).out.length ≤ (loadGo B f o l).e
  | 0, o, l, h => h
  | f + 1, o, l, h => by
    cases hn : nextP B o.m l with
    | none => rw [loadGo_end hn]; exact h
    | some sm =>
      obtain ⟨s, m⟩ := sm
      cases hs : lstep o.sealed s with
      | none => rw [loadGo_stop hn hs]; exact h
      | some st =>
        obtain ⟨sd, t⟩ := st
        have ht : t.length ≤ 1 := by
          unfold lstep at hs
          split at hs
          · injection hs with hs; injection hs with _ hs; rw [← hs]; exact Nat.zero_le _
          · split at hs
            · injection hs with hs; injection hs with _ hs; rw [← hs]; exact Nat.le_refl _
            · cases hs
        rw [loadGo_step hn hs]
        exact loadGo_out f _ _ (by show (o.out ++ t).length ≤ o.e + (36 + s.size); rw [List.length_append]; omega)
theorem wopen_out {q : Nat} {P : PS} (hok : OkP q P) (B : List ByteArray) : (wopen P B).out.length ≤ 2097152 ∧ (wopen P B).L.Ok := by
  have z : LG.Ok ⟨0, 0, ⟨#[]⟩⟩ := ⟨by decide, by decide, by decide⟩
  unfold wopen
  split
  · exact ⟨Nat.zero_le _, z⟩
  · have hlt := segsL_lt (names := P.files.map PF.name)
    have key : ∀ r, (∀ n ∈ r, n < 100000000) → (openGo (segsP P) P B r).out.length ≤ 2097152 ∧ (openGo (segsP P) P B r).L.Ok := by
      intro r
      induction r with
      | nil => exact fun _ => ⟨Nat.zero_le _, z⟩
      | cons m r ih =>
        intro hr
        have ih' := ih (fun n hn => hr n (List.mem_cons.2 (Or.inr hn)))
        cases hl : loadP P B m with
        | none => rw [openGo_none hl]; exact ih'
        | some o =>
          cases hs : o.sealed with
          | false => rw [openGo_open hl hs]; exact ih'
          | true =>
            rw [openGo_take hl hs]
            have hL := loadP_ok hok (hr m (List.mem_cons.2 (Or.inl rfl))) hl
            have ho : o.out.length ≤ o.e := by
              unfold loadP at hl
              split at hl
              · cases hl
              · split at hl
                · cases hl
                · injection hl with hl
                  rw [← hl]
                  exact loadGo_out _ _ _ (Nat.le_refl _)
            have he := hL.e
            unfold wtake
            split
            · exact ⟨Nat.zero_le _, hL⟩
            · exact ⟨Nat.le_trans ho he, hL⟩
    exact key _ hlt
/-- a row put behind a row of the call's own -/
theorem append_rows_run {w : World} (ty : TypeId) (base base2 : Nat) (v v2 : Value) (n m N : Nat) (xs ys : List ByteArray) (hown : w.ownsRow base 9 1 v n (strVals xs)) (hown2 : w.ownsRow base2 9 1 v2 m (strVals ys)) (hN : n + m = N) (h1 : N ≤ 1000000000) (hbase : base ≤ w.heap.size) :
    ∃ va cap w', (Builtin.append_ #[22, 22] ty #[v, v2]).run Tryz.prog w = .ok (.slice va N cap) w' ∧ w'.ownsRow base 9 1 (.slice va N cap) N (strVals (xs ++ ys)) ∧ Below base w w' := by
  obtain ⟨i0, hi0, hz0, hz1, hz2⟩ := info_parts info_strD
  have key : ∃ v' w', (Builtin.append_ #[22, 22] ty #[v, v2]).run Tryz.prog w = .ok v' w' ∧ w'.ownsRow base 9 1 v' N (strVals (xs ++ ys)) ∧ Below base w w' := by
    have hxy : strVals (xs ++ ys) = strVals xs ++ strVals ys := by unfold strVals; rw [List.map_append]
    have hlen2 : (strVals ys).length = m := by have := hown2.1; omega
    have hbel : ∀ w', w.grownBy w' v.ownBlock → Below base w w' := fun w' hg => ⟨hg.os, hg.tape, hg.output, hg.size, fun j hj => hg.block j (by omega) (fun e => by
      have := (hown.lt j e.symm).1
      omega)⟩
    rcases hown2.2 with ⟨rfl, rfl⟩ | ⟨g, cap, cur, rfl, hg, hb, hnc, hcm, hsz, htk⟩
    · have hnil : strVals ys = [] := List.length_eq_zero_iff.1 hlen2
      refine ⟨v, w, run_append_owned_none (P := Tryz.prog) w base 22 ty 9 i0 1 Tryz.underlying22 hi0 v n (strVals xs) hown, ?_, Below.refl _ _⟩
      rw [hxy, hnil, List.append_nil, ← hN]
      exact hown
    · have hcells := hown2
      obtain ⟨v', w', hr, h2, h3, _, h5⟩ := run_append_own_at (P := Tryz.prog) w base 22 ty 9 i0 (.string ByteArray.empty) 1 16 Tryz.underlying22 hi0 hz0 hz1 hz2 rfl (by decide) v n (strVals xs) hown ⟨g, 0, none⟩ m cap (strVals ys) (by omega) (fun j u hu => by
        have hj : j < m := by
          rw [← hlen2]
          exact (List.getElem?_eq_some_iff.1 hu).1
        rw [addr_add, hcells.cellAt j (by omega)]
        exact hu) (fun u hu => by
        unfold strVals at hu
        obtain ⟨t, _, rfl⟩ := List.mem_map.1 hu
        rfl) (by unfold maxLen; omega) (by omega) hbase
      refine ⟨v', w', hr, ?_, hbel w' h3⟩
      rw [hxy, ← hN]
      exact h2
  obtain ⟨v', w', hr, h2, h3⟩ := key
  obtain ⟨va, vc, rfl⟩ := row_shape h2
  exact ⟨va, vc, w', hr, h2, h3⟩
theorem wpList_append_rows {w : World} {ops : Array Oper} {rest : List Oper} {o : Oper} {a : Act} {Q : Exit → Act → World → Prop} (hgd : o.guard = none) (s x : Operand)
    (ho : o.op = .call { callee := .builtin .append, args := #[s, x], argTypes := #[22, 22] })
    (base base2 : Nat) (v v2 : Value) (n m N : Nat) (xs ys : List ByteArray) (hs : a.eval s = v) (hx : a.eval x = v2) (hown : w.ownsRow base 9 1 v n (strVals xs)) (hown2 : w.ownsRow base2 9 1 v2 m (strVals ys)) (hN : n + m = N) (h1 : N ≤ 1000000000) (hbase : base ≤ w.heap.size)
    (h : ∀ va cap w', w'.ownsRow base 9 1 (.slice va N cap) N (strVals (xs ++ ys)) → Below base w w' → wpList Tryz.prog ops Q rest (a.put o.dst (.slice va N cap)) w') : wpList Tryz.prog ops Q (o :: rest) a w :=
  wpList_plain hgd fun _ hK => by
    obtain ⟨va, vc, w', hr, h2, h3⟩ := append_rows_run o.type base base2 v v2 n m N xs ys hown hown2 hN h1 hbase
    unfold Oper.wp execOp
    simp only [ho, resolve, invoke, builtin, Sem.run_bind, Sem.run_pure, Result.andThen_ok, List.map_toArray, List.map_cons, List.map_nil, hs, hx, hr]
    exact hK _ _ (h va vc w' h2 h3)
/-- the statement's world, whatever was done to it -/
structure Wd (w0 : World) (b k mb wa lg : Nat) (P : PS) (Bk : List ByteArray) (L : LG) (n : Nat) (av sv : Value) (al sl : List ByteArray) (safe : Int) (turned : Bool) (w : World) : Prop where
  own : Own w0.heap.size w0 b k mb P Bk n w
  log : LogAt w lg b k L
  lok : L.Ok
  wat : WAt w wa b k lg av safe turned sv
  lgb : w0.heap.size ≤ lg
  wab : w0.heap.size ≤ wa
  arow : w.ownsRow w0.heap.size 9 1 av al.length (strVals al)
  srow : w.ownsRow w0.heap.size 9 1 sv sl.length (strVals sl)
  gd : Gd P
theorem Wd.ne {w0 w : World} {b k mb wa lg n : Nat} {P : PS} {Bk al sl : List ByteArray} {L : LG} {av sv : Value} {safe : Int} {turned : Bool} (h : Wd w0 b k mb wa lg P Bk L n av sv al sl safe turned w) : lg ≠ wa := Blk.ne h.log h.wat (by decide)
theorem Wd.rk {w0 w w' : World} {b k mb wa lg n : Nat} {P : PS} {Bk al sl : List ByteArray} {L : LG} {av sv : Value} {safe : Int} {turned : Bool} (h : Wd w0 b k mb wa lg P Bk L n av sv al sl safe turned w) (hk : Kept b k mb Bk (fun j => j = lg) w w') : RK w w' :=
  fun base v n xs hr => hk.row hr (by unfold FarT; decide) (fun g hg e => row_ne hr h.log (by decide) (by rw [hg, e]))
theorem Wd.next {w0 w w' : World} {b k mb wa lg n m : Nat} {P P' : PS} {Bk Bk' al sl : List ByteArray} {L L' : LG} {av sv : Value} {safe : Int} {turned : Bool} (h : Wd w0 b k mb wa lg P Bk L n av sv al sl safe turned w) (ho : Own w0.heap.size w0 b k mb P' Bk' m w') (hl : LogAt w' lg b k L') (hL : L'.Ok) (hg : Gd P') (hk : Kept b k mb Bk (fun j => j = lg) w w') : Wd w0 b k mb wa lg P' Bk' L' m av sv al sl safe turned w' ∧ RK w w' :=
  ⟨⟨ho, hl, hL, hk.blk h.wat (by unfold FarT; decide) (fun e => h.ne e.symm), h.lgb, h.wab, h.rk hk _ _ _ _ h.arow, h.rk hk _ _ _ _ h.srow, hg⟩, h.rk hk⟩
theorem Wd.same {w0 w w' : World} {b k mb wa lg n m : Nat} {P P' : PS} {Bk Bk' al sl : List ByteArray} {L : LG} {av sv : Value} {safe : Int} {turned : Bool} (h : Wd w0 b k mb wa lg P Bk L n av sv al sl safe turned w) (ho : Own w0.heap.size w0 b k mb P' Bk' m w') (hg : Gd P') (hk : Kept b k mb Bk (fun _ => False) w w') : Wd w0 b k mb wa lg P' Bk' L m av sv al sl safe turned w' ∧ RK w w' :=
  h.next ho (hk.blk h.log (by unfold FarT; decide) (fun h => h)) h.lok hg hk.none
theorem Wd.below {w0 w w' : World} {b k mb wa lg n : Nat} {P : PS} {Bk al sl : List ByteArray} {L : LG} {av sv : Value} {safe : Int} {turned : Bool} (h : Wd w0 b k mb wa lg P Bk L n av sv al sl safe turned w) (hb : Below w.heap.size w w') : Wd w0 b k mb wa lg P Bk L n av sv al sl safe turned w' :=
  ⟨h.own.below hb, Blk.below h.log hb, h.lok, Blk.below h.wat hb, h.lgb, h.wab, ownsRow_below h.arow hb, ownsRow_below h.srow hb, h.gd⟩
/-- beside the device, the book, the log and the rows one may write into the world's own block -/
theorem Wd.set {w0 w w1 : World} {b k mb wa lg lg2 n : Nat} {P : PS} {Bk al sl al2 sl2 : List ByteArray} {L L2 : LG} {av sv av2 sv2 : Value} {safe safe2 : Int} {turned turned2 : Bool} (h : Wd w0 b k mb wa lg P Bk L n av sv al sl safe turned w) (hb : Below w.heap.size w w1) (ha : w1.ownsRow w0.heap.size 9 1 av2 al2.length (strVals al2)) (hs : w1.ownsRow w0.heap.size 9 1 sv2 sl2.length (strVals sl2))
    (hl : LogAt w1 lg2 b k L2) (hl2 : w0.heap.size ≤ lg2) (hL2 : L2.Ok) (i : Nat) (x : Value) (he : (wldVals b k lg av safe turned sv).set i x = wldVals b k lg2 av2 safe2 turned2 sv2) : Wd w0 b k mb wa lg2 P Bk L2 n av2 sv2 al2 sl2 safe2 turned2 (w1.setCell ⟨wa, i, none⟩ x) := by
  have h1 := h.below hb
  obtain ⟨S, hp, hR, hf⟩ := h1.own.dev
  have ht : Touch (fun j => j = wa) w1 (w1.setCell ⟨wa, i, none⟩ x) := touch1_set (Touch.refl _ w1) x
  refine ⟨h1.own.also ht ?_ ?_ ?_ ?_, Blk.touch hl ht (Blk.ne hl h1.wat (by decide)), hL2, ?_, hl2, h.wab, row_touch ha ht ?_, row_touch hs ht ?_, h.gd⟩
  · rintro j rfl; exact h.wab
  · rintro S2 hR2 j hfj rfl; exact foot_not hR2.dev h1.wat (by decide) hfj
  · exact fun e => (Blk.ne h1.wat hR.book.at_ (by decide)) e.symm
  · exact fun e => hR.book.mb_ne h1.wat e.symm
  · have := Blk.set h1.wat i x
    rw [he] at this
    exact this
  · intro g hg e
    exact row_ne ha h1.wat (by decide) (by rw [hg, e])
  · intro g hg e
    exact row_ne hs h1.wat (by decide) (by rw [hg, e])
end Go.Proofs.YtkllnihhhgaojaaGreatDoor
namespace Go.Proofs.YtkllnihhhgaojaaGreatDoor
open Go Go.RowKit
set_option linter.unusedVariables false

theorem below_q {w wr : World} (h : ∃ q, wr = w.drewN q) : Below w.heap.size w wr := by
  obtain ⟨q, rfl⟩ := h
  exact below_drewN (Below.refl _ _) q
theorem more_q {w wr : World} (h : ∃ q, wr = w.drewN q) (n : Nat) : ∃ q, wr.drewN n = w.drewN q := by
  obtain ⟨q, rfl⟩ := h
  exact ⟨q + n, by simp [World.drewN, Nat.add_assoc]⟩
set_option maxRecDepth 100000 in
set_option maxHeartbeats 1000000 in
theorem begins_q (ad : Option Addr) (cap : Nat) (a : List ByteArray) (bd : Option Addr) (bcap : Nat) (b : List ByteArray) (least : Int) (w : World) (ha : StrsAt w ad a) (hb : StrsAt w bd b) (hal : a.length ≤ 1000000000) :
    Calls Tryz.prog 17 #[.slice ad a.length cap, .slice bd b.length bcap, .int .i64 least] w fun e w' => e = .returned (.bool (beginsB a b least)) ∧ ∃ q, w' = w.drewN q := by
  by_cases h1 : a.length ≤ b.length ∧ least ≤ a.length
  · have hi1 : ¬ ((b.length : Int) < (a.length : Int)) := by omega
    have hi2 : ¬ ((a.length : Int) < least) := by omega
    have hB : beginsB a b least = decide (a <+: b) := by
      unfold beginsB
      rw [decide_eq_decide]
      exact ⟨fun h => h.2.2, fun h => ⟨h1.1, h1.2, h⟩⟩
    have hpt := prefix_take h1.1
    generalize beginsB a b least = R at hB
    have HR := Lib.hid (show R = true ↔ ∀ k (hk : k < a.length), a[k] = b[k]'(by omega) from by rw [hB, decide_eq_true_eq]; exact hpt)
    have HA := Lib.hid ha
    have HB := Lib.hid hb
    clear hB hpt ha hb
    go_enter Tryz.func17, Tryz.ntmps17
    go_wp2_with fail
    go_loopw [7] (fun i wr => ∃ k : Nat, k ≤ a.length ∧ i = .int .i64 k ∧ Hid (∀ j (hj : j < k) (hja : j < a.length), a[j] = b[j]'(by omega)) ∧ Hid (∃ q, wr = w.drewN q)) (fun i _ => a.length - (intOf i).toNat)
    case atStart => exact ⟨0, Nat.zero_le _, rfl, Lib.hid (fun j hj => by omega), Lib.hid ⟨0, rfl⟩⟩
    case round =>
      obtain ⟨k, hk, rfl, HE, HW⟩ := hrel
      by_cases hlt : k < a.length
      · have hki : (k : Int) < (a.length : Int) := by omega
        have hkb : (k : Int) < (b.length : Int) := by omega
        rcases strsAt_below HA.out (below_q HW.out) with h0 | ⟨g, off, rfl, hgl, hc⟩
        · rw [h0] at hlt; simp at hlt
        · rcases strsAt_below HB.out (below_q HW.out) with h0 | ⟨g2, off2, rfl, hgl2, hc2⟩
          · rw [h0] at h1; simp at h1; rw [h1.1] at hlt; simp at hlt
          · have cs := hc k hlt
            have cs2 := hc2 k (by omega)
            have HEQ : Hid (a[k] = b[k]'(by omega) → ∀ j (hj : j < k + 1) (hja : j < a.length), a[j] = b[j]'(by omega)) := Lib.hid (fun he j hj hja => by
              by_cases e : j = k
              · subst e; exact he
              · exact HE.out j (by omega) hja)
            have HNE : Hid (a[k] ≠ b[k]'(by omega) → R = false) := Lib.hid (fun he => by
              rw [Bool.eq_false_iff]
              exact fun h => he ((HR.out.1 h) k hlt))
            generalize a[k] = s at cs HEQ HNE
            generalize b[k]'(by omega) = t at cs2 HEQ HNE
            clear hc hc2 HE
            have hse := strEq_any s t
            by_cases hst : s = t
            · have hb2 : (s.toList == t.toList) = true := by rw [hse]; exact decide_eq_true hst
              have HE2 := Lib.hid (HEQ.out hst)
              clear HEQ HNE hse hst
              go_wp2_with fail
              go_quiet (fail)
              have HW2 := Lib.hid (more_q HW.out nq)
              go_wp2_with fail
              go_roundw
              case rel => exact ⟨k + 1, by omega, by go_num, HE2, HW2⟩
              case measure => simp [intOf]; omega
            · have hb2 : (s.toList == t.toList) = false := by rw [hse]; exact decide_eq_false hst
              have HF := Lib.hid (HNE.out hst)
              clear HEQ HNE hse hst
              go_wp2_with fail
              go_quiet (fail)
              have HW2 := Lib.hid (more_q HW.out nq)
              go_wp2_with fail
              go_ret
              exact ⟨by rw [HF.out]; rfl, HW2.out⟩
      · have hki : ¬ ((k : Int) < (a.length : Int)) := by omega
        have HT : Hid (R = true) := Lib.hid (HR.out.2 (fun j hj => HE.out j (by omega) hj))
        go_wp2_with fail
        go_ret
        exact ⟨by rw [HT.out]; rfl, HW.out⟩
  · have hB : beginsB a b least = false := by
      unfold beginsB
      rw [decide_eq_false_iff_not]
      exact fun h => h1 ⟨h.1, h.2.1⟩
    rw [hB]
    clear hB ha hb
    by_cases h2 : b.length < a.length
    · have hi : (b.length : Int) < (a.length : Int) := by omega
      go_enter Tryz.func17, Tryz.ntmps17
      go_wp2_with fail
      go_ret
      exact ⟨rfl, 0, rfl⟩
    · have hi : ¬ ((b.length : Int) < (a.length : Int)) := by omega
      have hi2 : (a.length : Int) < least := by omega
      go_enter Tryz.func17, Tryz.ntmps17
      go_wp2_with fail
      go_ret
      exact ⟨rfl, 0, rfl⟩
set_option maxRecDepth 100000 in
set_option maxHeartbeats 1000000 in
theorem same_q (ad : Option Addr) (cap : Nat) (a : List ByteArray) (bd : Option Addr) (bcap : Nat) (b : List ByteArray) (w : World) (ha : StrsAt w ad a) (hb : StrsAt w bd b) (hal : a.length ≤ 1000000000) :
    Calls Tryz.prog 22 #[.slice ad a.length cap, .slice bd b.length bcap] w fun e w' => e = .returned (.bool (sameB a b)) ∧ ∃ q, w' = w.drewN q := by
  by_cases hl : a.length = b.length
  · have HB := Lib.hid (begins_q ad cap a bd bcap b 0 w ha hb hal)
    have e : beginsB a b 0 = sameB a b := by
      unfold beginsB sameB
      rw [decide_eq_decide]
      constructor
      · rintro ⟨_, _, h⟩; exact h.eq_of_length hl
      · rintro rfl; exact ⟨Nat.le_refl _, by omega, List.prefix_rfl⟩
    rw [e] at HB
    generalize sameB a b = R at HB ⊢
    rw [← hl] at HB ⊢
    clear e ha hb hl
    go_enter Tryz.func22, Tryz.ntmps22
    go_wp2_with fail
    refine HB.out.mono ?_
    rintro e w1 ⟨rfl, hb1⟩
    have HB1 := Lib.hid hb1
    clear hb1
    go_wp2_with fail
    go_ret
    exact ⟨rfl, HB1.out⟩
  · have e : sameB a b = false := by
      unfold sameB
      rw [decide_eq_false_iff_not]
      exact fun h => hl (congrArg List.length h)
    have hb2 : ((a.length : Int) == (b.length : Int)) = false := by rw [beq_eq_false_iff_ne]; omega
    rw [e]
    clear e ha hb hl
    go_enter Tryz.func22, Tryz.ntmps22
    go_wp2_with fail
    go_ret
    exact ⟨rfl, 0, rfl⟩
end Go.Proofs.YtkllnihhhgaojaaGreatDoor
namespace Go.Proofs.YtkllnihhhgaojaaGreatDoor
open Go Go.RowKit
set_option linter.unusedVariables false

theorem layB_take {l t : List UInt8} {a q : Nat} (h1 : q ≤ a) (h2 : q ≤ l.length) : q ≤ (layB l a t).length ∧ (layB l a t).take q = l.take q := by
  refine ⟨by rw [layB_length]; omega, ?_⟩
  unfold layB
  rw [List.append_assoc, List.take_append_of_le_length (by rw [List.length_take, List.length_append, List.length_replicate]; omega), List.take_take, Nat.min_eq_left h1, List.take_append_of_le_length h2]
theorem lastF_take {p : DPiece} {n q : Nat} {f : PF} (h : p.id = f.id → q ≤ spot p) (hq : q ≤ f.last.length) : q ≤ (lastF p n f).last.length ∧ (lastF p n f).last.take q = f.last.take q := by
  unfold lastF
  split
  · rename_i hc
    exact layB_take (h hc.1.symm) hq
  · exact ⟨hq, rfl⟩
theorem lastly_take {id : Int} {q : Nat} : ∀ (wait : List DPiece) (l : List UInt8), (∀ p ∈ wait, p.id = id → q ≤ spot p) → q ≤ l.length → q ≤ (lastly wait id l).length ∧ (lastly wait id l).take q = l.take q
  | [], l, _, hq => ⟨hq, rfl⟩
  | p :: r, l, h, hq => by
    have h1 : q ≤ (pieceL id l p).length ∧ (pieceL id l p).take q = l.take q := by
      unfold pieceL
      split
      · rename_i hc
        exact layB_take (h p (List.mem_cons.2 (Or.inl rfl)) hc.1.symm) hq
      · exact ⟨hq, rfl⟩
    obtain ⟨h2, h3⟩ := lastly_take r (pieceL id l p) (fun p hp => h p (List.mem_cons.2 (Or.inr hp))) h1.1
    exact ⟨h2, h3.trans h1.2⟩
theorem crashF_take {q : Nat} : ∀ (l : List (DPiece × Int)) (fs : List PF) (f : PF), f ∈ fs → (∀ x ∈ l, x.1.id = f.id → q ≤ spot x.1) → q ≤ f.last.length → ∃ f' ∈ crashF l fs, f'.id = f.id ∧ f'.name = f.name ∧ q ≤ f'.last.length ∧ f'.last.take q = f.last.take q
  | [], fs, f, hf, _, hq => ⟨f, hf, rfl, rfl, hq, rfl⟩
  | x :: r, fs, f, hf, h, hq => by
    obtain ⟨e1, e2, e3⟩ := lastF_rest x.1 (fateN x.1 x.2) f
    obtain ⟨h1, h2⟩ := lastF_take (n := fateN x.1 x.2) (fun e => h x (List.mem_cons.2 (Or.inl rfl)) e) hq
    obtain ⟨f', k1, k2, k3, k4, k5⟩ := crashF_take r (fs.map (lastF x.1 (fateN x.1 x.2))) (lastF x.1 (fateN x.1 x.2) f) (List.mem_map.2 ⟨f, hf, rfl⟩) (fun y hy e => h y (List.mem_cons.2 (Or.inr hy)) (e.trans e1)) h1
    exact ⟨f', k1, k2.trans e1, k3.trans e2, k4, k5.trans h2⟩

/-- records that make a whole snapshot, and maybe more -/
def Sealed (B : List ByteArray) (n : Nat) (s : List UInt8) : Prop := ∃ recs m, Chn B n recs s m ∧ Takes false recs ∧ (dec (false, []) recs).1 = true
theorem Sealed.grow {B B' : List ByteArray} (hg : Grow B B') {n : Nat} {s : List UInt8} (h : Sealed B n s) : Sealed B' n s := by
  obtain ⟨recs, m, h1, h2, h3⟩ := h
  exact ⟨recs, m, hg _ _ _ _ h1, h2, h3⟩
/-- a file's first bytes last, and nothing that waits touches them -/
def Gf (P : PS) (id : Int) (nm : ByteArray) (ls : List UInt8) (q : Nat) : Prop := (∃ f ∈ P.files, f.id = id ∧ f.name = nm ∧ q ≤ f.last.length ∧ f.last.take q = ls) ∧ ∀ p ∈ P.wait, p.id = id → q ≤ spot p
theorem mem_mod {l : List PF} {i : Nat} {F : PF → PF} {f : PF} (h : f ∈ l) : f ∈ l.modify i F ∨ F f ∈ l.modify i F := by
  obtain ⟨j, hj, rfl⟩ := List.mem_iff_getElem.1 h
  have hj2 : j < (l.modify i F).length := by rw [List.length_modify]; exact hj
  have e := List.getElem_mem hj2
  rw [List.getElem_modify] at e
  by_cases hij : i = j
  · rw [if_pos hij] at e; exact Or.inr e
  · rw [if_neg hij] at e; exact Or.inl e
theorem Gf.wrStep {P : PS} {id : Int} {nm : ByteArray} {ls : List UInt8} {q i a : Nat} {t : ByteArray} (h : Gf P id nm ls q) (hc : idAt P i = id → q ≤ a) : Gf (wrStep P i a t) id nm ls q := by
  obtain ⟨⟨f, hf, h1, h2, h3, h4⟩, hw⟩ := h
  refine ⟨?_, fun p hp e => ?_⟩
  · rcases mem_mod (i := i) (F := fun f => { f with seen := layB f.seen a t.data.toList }) hf with k | k
    · exact ⟨f, k, h1, h2, h3, h4⟩
    · exact ⟨_, k, h1, h2, h3, h4⟩
  · rcases List.mem_append.1 hp with k | k
    · exact hw p k e
    · rw [List.mem_singleton.1 k] at e ⊢
      rw [spot_piece]
      exact hc e
theorem Gf.wrGo {id : Int} {nm : ByteArray} {ls : List UInt8} {q : Nat} : ∀ (m : Nat) {P : PS} {i a : Nat} {t : ByteArray}, Gf P id nm ls q → (idAt P i = id → q ≤ a) → Gf (wrGo m P i a t).2 id nm ls q
  | 0, P, i, a, t, h, hc => h
  | m + 1, P, i, a, t, h, hc => by
    unfold Go.Proofs.YtkllnihhhgaojaaGreatDoor.wrGo
    split
    · exact h
    · split
      · exact h
      · exact Gf.wrGo m (h.wrStep hc) (by rw [idAt_step]; exact fun e => Nat.le_trans (hc e) (Nat.le_add_right _ _))
theorem Gf.write {P : PS} {id : Int} {nm : ByteArray} {ls : List UInt8} {q : Nat} (h : Gf P id nm ls q) (hs : Snd P) (s : ByteArray) (a : Nat) (t : ByteArray) (hc : s = nm → q ≤ a) : Gf (P.write s (a : Int) t).2 id nm ls q := by
  unfold PS.write
  split
  · exact h
  · split
    · exact h
    · rename_i i hi
      split
      · exact h
      · split
        · exact h
        · refine Gf.wrGo _ h (fun e => ?_)
          obtain ⟨hl, hn⟩ := findI_lt hi
          rw [idAt_get hl] at e
          obtain ⟨⟨f, hf, h1, h2, _⟩, _⟩ := h
          obtain ⟨j, hj, rfl⟩ := List.mem_iff_getElem.1 hf
          by_cases hij : i = j
          · subst hij
            have := hc (hn.symm.trans h2)
            omega
          · exact absurd (e.trans h1.symm) (pair_ne hs.ids hl hj hij)
theorem Gf.syncR {P : PS} {id : Int} {nm : ByteArray} {ls : List UInt8} {q : Nat} (h : Gf P id nm ls q) : Gf P.syncR.2 id nm ls q := by
  unfold PS.syncR
  split
  · exact h
  · obtain ⟨⟨f, hf, h1, h2, h3, h4⟩, hw⟩ := h
    obtain ⟨k1, k2⟩ := lastly_take (id := f.id) P.wait f.last (fun p hp e => hw p hp (e.trans h1)) h3
    refine ⟨⟨{ f with last := lastly P.wait f.id f.last }, ?_, h1, h2, k1, k2.trans h4⟩, fun p hp => by cases hp⟩
    show _ ∈ syncF P.wait P.files
    rw [syncF_map]
    exact List.mem_map.2 ⟨f, hf, rfl⟩
theorem Gf.crash {P : PS} {id : Int} {nm : ByteArray} {ls : List UInt8} {q : Nat} (h : Gf P id nm ls q) (l : List Int) : Gf (P.crash l) id nm ls q := by
  obtain ⟨⟨f, hf, h1, h2, h3, h4⟩, hw⟩ := h
  obtain ⟨f', k1, k2, k3, k4, k5⟩ := crashF_take (P.wait.zip l) P.files f hf (fun x hx e => hw x.1 (List.of_mem_zip (show (x.1, x.2) ∈ _ from hx)).1 (e.trans h1)) h3
  exact ⟨⟨seenF f', List.mem_map.2 ⟨f', k1, rfl⟩, k2.trans h1, k3.trans h2, k4, k5.trans h4⟩, fun p hp => by cases hp⟩
theorem Gf.arm {P : PS} {id : Int} {nm : ByteArray} {ls : List UInt8} {q : Nat} (h : Gf P id nm ls q) (n : Int) : Gf (P.arm n).2 id nm ls q := by
  unfold PS.arm
  split
  · exact h
  · split
    · exact h
    · exact h
theorem Gf.create {P : PS} {id : Int} {nm : ByteArray} {ls : List UInt8} {q : Nat} (h : Gf P id nm ls q) (s : ByteArray) : Gf (P.create s).2 id nm ls q := by
  unfold PS.create
  split
  · exact h
  · split
    · exact h
    · split
      · exact h
      · obtain ⟨⟨f, hf, h1⟩, hw⟩ := h
        refine ⟨⟨f, ?_, h1⟩, hw⟩
        rw [← List.take_append_drop (lowerP P.files s) P.files] at hf
        rcases List.mem_append.1 hf with k | k
        · exact List.mem_append.2 (Or.inl k)
        · exact List.mem_append.2 (Or.inr (List.mem_cons.2 (Or.inr k)))
theorem Gf.remove {P : PS} {id : Int} {nm : ByteArray} {ls : List UInt8} {q : Nat} (h : Gf P id nm ls q) {s : ByteArray} (hs : s ≠ nm) : Gf (P.remove s).2 id nm ls q := by
  unfold PS.remove
  split
  · exact h
  · split
    · exact h
    · rename_i i hi
      obtain ⟨hl, hn⟩ := findI_lt hi
      obtain ⟨⟨f, hf, h1, h2, h3⟩, hw⟩ := h
      refine ⟨⟨f, ?_, h1, h2, h3⟩, fun p hp => hw p (List.mem_filter.1 hp).1⟩
      obtain ⟨j, hj, rfl⟩ := List.mem_iff_getElem.1 hf
      show _ ∈ P.files.eraseIdx i
      rw [List.mem_eraseIdx_iff_getElem]
      exact ⟨j, hj, fun e => hs (by subst e; rw [← hn, h2]), rfl⟩
/-- a segment whose snapshot is whole and lasts -/
def Good (P : PS) (B : List ByteArray) (n q : Nat) : Prop := ∃ id ls, Gf P id (wname n) ls q ∧ Sealed B n ls
theorem Good.grow {P : PS} {B B' : List ByteArray} {n q : Nat} (h : Good P B n q) (hg : Grow B B') : Good P B' n q := by
  obtain ⟨id, ls, h1, h2⟩ := h
  exact ⟨id, ls, h1, h2.grow hg⟩
theorem Good.map {P P' : PS} {B : List ByteArray} {n q : Nat} (h : Good P B n q) (hm : ∀ id ls, Gf P id (wname n) ls q → Gf P' id (wname n) ls q) : Good P' B n q := by
  obtain ⟨id, ls, h1, h2⟩ := h
  exact ⟨id, ls, hm _ _ h1, h2⟩
theorem Good.mem {P : PS} {B : List ByteArray} {n q : Nat} (h : Good P B n q) : wname n ∈ nmL P := by
  obtain ⟨id, ls, ⟨⟨f, hf, _, h2, _⟩, _⟩, _⟩ := h
  exact List.mem_map.2 ⟨f, hf, h2⟩
theorem wput_keep (P : PS) (B : List ByteArray) (L : LG) (c : UInt8) (texts : List ByteArray) : (wput P B L c texts).L.n = L.n ∧ L.e ≤ (wput P B L c texts).L.e ∧ nmL (wput P B L c texts).P = nmL P ∧ Grow B (wput P B L c texts).B ∧ ((wput P B L c texts).P = P ∨ ∃ t, (wput P B L c texts).P = (P.write (wname L.n) L.e t).2) := by
  have hg := putAcc_grow c texts B L.m []
  rcases hp : putAcc c texts B L.m [] with ⟨B', _ | ⟨t, m'⟩⟩
  · rw [hp] at hg
    rw [wput_long hp]; exact ⟨rfl, Nat.le_refl _, rfl, hg, Or.inl rfl⟩
  · rw [hp] at hg
    by_cases hz : (P.write (wname L.n) L.e (textOf t)).1 = 0
    · rw [wput_ok hp hz]; exact ⟨rfl, Nat.le_add_right _ _, (nm_write _ _ _ _).1, hg, Or.inr ⟨_, rfl⟩⟩
    · rw [wput_no hp hz]; exact ⟨rfl, Nat.le_refl _, (nm_write _ _ _ _).1, hg, Or.inr ⟨_, rfl⟩⟩
theorem Good.wput {P : PS} {B : List ByteArray} {n q : Nat} (h : Good P B n q) (hs : Snd P) (L : LG) (c : UInt8) (texts : List ByteArray) (hn : n < 100000000) (hL : L.n < 100000000) (hc : L.n = n → q ≤ L.e) : Good (wput P B L c texts).P (wput P B L c texts).B n q := by
  obtain ⟨_, _, _, hg, hw⟩ := wput_keep P B L c texts
  refine Good.grow (h.map (fun id ls hf => ?_)) hg
  rcases hw with e | ⟨t, e⟩
  · rw [e]; exact hf
  · rw [e]
    exact hf.write hs _ _ _ (fun e => hc (wname_inj hL hn e))
/-- the device has no more than its sectors -/
def Rm (P : PS) : Prop := ((usedP P.files : Nat) : Int) ≤ P.most
theorem usedP_modify : ∀ (l : List PF) (i : Nat) (F : PF → PF), usedP (l.modify i F) + (l[i]?.map secsP).getD 0 = usedP l + (l[i]?.map fun f => secsP (F f)).getD 0
  | [], i, F => by
    cases i <;> rfl
  | f :: l, 0, F => by
    show usedP (F f :: l) + secsP f = usedP (f :: l) + secsP (F f)
    unfold usedP
    rw [List.map_cons, List.map_cons, List.sum_cons, List.sum_cons]
    omega
  | f :: l, i + 1, F => by
    have ih := usedP_modify l i F
    rw [List.modify_succ_cons]
    show usedP (f :: l.modify i F) + (l[i]?.map secsP).getD 0 = usedP (f :: l) + (l[i]?.map fun f => secsP (F f)).getD 0
    unfold usedP at ih ⊢
    rw [List.map_cons, List.map_cons, List.sum_cons, List.sum_cons]
    omega
theorem secs_max (a b : Nat) : secs (max a b) = max (secs a) (secs b) := by unfold secs; omega
theorem used_wrGo : ∀ (m : Nat) (P : PS) (i a : Nat) (t : ByteArray), usedP (wrGo m P i a t).2.files + secsI P i ≤ usedP P.files + max (secsI P i) (secs (a + t.size)) ∧ (wrGo m P i a t).2.most = P.most
  | 0, P, i, a, t => ⟨by show usedP P.files + _ ≤ _; omega, rfl⟩
  | m + 1, P, i, a, t => by
    unfold wrGo
    split
    · exact ⟨by show usedP P.files + _ ≤ _; omega, rfl⟩
    · split
      · exact ⟨by show usedP P.files + _ ≤ _; omega, rfl⟩
      · rename_i h0 _
        obtain ⟨ih, h2⟩ := used_wrGo m (wrStep P i a (t.extract 0 (room a t))) i (a + room a t) (t.extract (room a t) t.size)
        refine ⟨?_, h2⟩
        obtain ⟨r1, r2, r3⟩ := room_pos (a := a) (t := t) (by omega)
        have hu := usedP_modify P.files i fun f => { f with seen := layB f.seen a (t.extract 0 (room a t)).data.toList }
        have hl : (t.extract 0 (room a t)).data.toList.length = room a t := by rw [extract_take, take_size r2]
        have hs1 : secsI (wrStep P i a (t.extract 0 (room a t))) i = (P.files[i]?.map fun f => secsP { f with seen := layB f.seen a (t.extract 0 (room a t)).data.toList }).getD 0 := by
          unfold secsI wrStep
          show ((P.files.modify i _)[i]?.map secsP).getD 0 = _
          rw [List.getElem?_modify]
          simp
          cases P.files[i]? <;> rfl
        have hs2 : secsI (wrStep P i a (t.extract 0 (room a t))) i ≤ max (secsI P i) (secs (a + room a t)) ∧ secsI P i ≤ secsI (wrStep P i a (t.extract 0 (room a t))) i := by
          rw [hs1]
          unfold secsI
          cases hf : P.files[i]? with
          | none => exact ⟨Nat.zero_le _, Nat.le_refl _⟩
          | some f =>
            show secs (max (layB f.seen a _).length f.last.length) ≤ max (secs (max f.seen.length f.last.length)) _ ∧ secs (max f.seen.length f.last.length) ≤ secs (max (layB f.seen a _).length f.last.length)
            rw [layB_length, hl]
            unfold secs
            omega
        have hm := secs_mono (show a + room a t ≤ a + t.size by omega)
        rw [rest_size] at ih
        have e : a + room a t + (t.size - room a t) = a + t.size := by omega
        rw [e] at ih
        have hf1 : (wrStep P i a (t.extract 0 (room a t))).files = P.files.modify i fun f => { f with seen := layB f.seen a (t.extract 0 (room a t)).data.toList } := rfl
        rw [hf1] at ih
        rw [← hs1] at hu
        unfold secsI at ih hs2 ⊢
        unfold secsI at hu
        omega
theorem Rm.write {P : PS} (h : Rm P) (s : ByteArray) (a : Int) (t : ByteArray) : Rm (P.write s a t).2 := by
  unfold Rm at *
  unfold PS.write
  split
  · exact h
  · split
    · exact h
    · rename_i i hi
      split
      · exact h
      · rename_i hr
        split
        · exact h
        · rename_i hfull
          obtain ⟨h1, h2⟩ := used_wrGo t.size P i a.toNat t
          rw [h2]
          by_cases ht : 0 < t.size
          · have : ¬ (P.most - (usedP P.files : Nat) < ((secs (a.toNat + t.size) : Nat) : Int) - ((secsI P i : Nat) : Int)) := fun hh => hfull ⟨ht, hh⟩
            omega
          · rw [wrGo_done (by omega)]
            exact h
theorem Rm.syncR {P : PS} (h : Rm P) (hs : Snd P) : Rm P.syncR.2 := by
  have h2 := hs.syncR
  unfold Rm at *
  rw [used_vw h2]
  rw [used_vw hs] at h
  unfold PS.syncR
  split
  · exact h
  · rw [hs.sync_eq]
    have hv : vw { P with files := P.files.map fun f => { f with last := f.seen }, wait := [] } = vw P := by
      unfold vw
      rw [List.map_map]
      rfl
    show ((vsum (vw { P with files := P.files.map fun f => { f with last := f.seen }, wait := [] }) : Nat) : Int) ≤ P.most
    rw [hv]
    exact h
theorem lastly_mono {id : Int} : ∀ (wait : List DPiece) (l l' : List UInt8), l.length ≤ l'.length → (lastly wait id l).length ≤ (lastly wait id l').length
  | [], l, l', h => h
  | p :: r, l, l', h => lastly_mono r (pieceL id l p) (pieceL id l' p) (by
      unfold pieceL
      split
      · rw [layB_length, layB_length]; omega
      · exact h)
theorem lastly_append (a b : List DPiece) (id : Int) (l : List UInt8) : (lastly a id l).length ≤ (lastly (a ++ b) id l).length := by
  unfold lastly
  rw [List.foldl_append]
  exact lastly_len id b _
theorem zip_fst (a : List DPiece) : ∀ (l : List Int), ∃ b, a = (a.zip l).map Prod.fst ++ b := by
  induction a with
  | nil => exact fun l => ⟨[], rfl⟩
  | cons p r ih =>
    intro l
    cases l with
    | nil => exact ⟨p :: r, rfl⟩
    | cons x l =>
      obtain ⟨b, hb⟩ := ih l
      exact ⟨b, by rw [List.zip_cons_cons, List.map_cons, List.cons_append, ← hb]⟩
theorem crashF_at : ∀ (l : List (DPiece × Int)) (fs : List PF), (crashF l fs).length = fs.length ∧ ∀ j (h1 : j < (crashF l fs).length) (h2 : j < fs.length), (crashF l fs)[j].seen = fs[j].seen ∧ (crashF l fs)[j].last.length ≤ (lastly (l.map Prod.fst) fs[j].id fs[j].last).length
  | [], fs => ⟨rfl, fun j h1 h2 => ⟨rfl, Nat.le_refl _⟩⟩
  | x :: r, fs => by
    obtain ⟨h0, h⟩ := crashF_at r (fs.map (lastF x.1 (fateN x.1 x.2)))
    rw [List.length_map] at h0
    refine ⟨h0, fun j h1 h2 => ?_⟩
    obtain ⟨k1, k2⟩ := h j h1 (by rw [List.length_map]; exact h2)
    rw [List.getElem_map] at k1 k2
    obtain ⟨e1, e2, e3⟩ := lastF_rest x.1 (fateN x.1 x.2) fs[j]
    refine ⟨k1.trans e3, Nat.le_trans k2 ?_⟩
    rw [e1]
    refine lastly_mono _ _ (pieceL fs[j].id fs[j].last x.1) ?_
    unfold lastF pieceL
    have hle := fateN_le x.1 x.2
    split
    · rename_i hc
      rw [if_pos ⟨hc.1, by omega⟩, layB_length, layB_length, take_size hle, extract_len]
      omega
    · split
      · rw [layB_length]; omega
      · exact Nat.le_refl _
theorem sum_le_of : ∀ (a b : List Nat), a.length = b.length → (∀ j (h1 : j < a.length) (h2 : j < b.length), a[j] ≤ b[j]) → a.sum ≤ b.sum
  | [], [], _, _ => Nat.le_refl _
  | [], _ :: _, h, _ => by simp at h
  | _ :: _, [], h, _ => by simp at h
  | x :: a, y :: b, h, hh => by
    rw [List.sum_cons, List.sum_cons]
    have h0 := hh 0 (by simp) (by simp)
    have := sum_le_of a b (by simpa using h) (fun j h1 h2 => hh (j + 1) (by simp; omega) (by simp; omega))
    simp at h0
    omega
theorem Rm.crash {P : PS} (h : Rm P) (hs : Snd P) (l : List Int) : Rm (P.crash l) := by
  unfold Rm at *
  show ((usedP ((crashF (P.wait.zip l) P.files).map seenF) : Nat) : Int) ≤ P.most
  obtain ⟨h0, hc⟩ := crashF_at (P.wait.zip l) P.files
  obtain ⟨b, hb⟩ := zip_fst P.wait l
  have : usedP ((crashF (P.wait.zip l) P.files).map seenF) ≤ usedP P.files := by
    unfold usedP
    refine sum_le_of _ _ (by rw [List.length_map, List.length_map, List.length_map, h0]) (fun j h1 h2 => ?_)
    rw [List.length_map, List.length_map] at h1
    rw [List.length_map] at h2
    rw [List.getElem_map, List.getElem_map, List.getElem_map]
    obtain ⟨k1, k2⟩ := hc j h1 h2
    show secs (max (crashF (P.wait.zip l) P.files)[j].last.length (crashF (P.wait.zip l) P.files)[j].last.length) ≤ secs (max P.files[j].seen.length P.files[j].last.length)
    have h3 := lastly_append ((P.wait.zip l).map Prod.fst) b P.files[j].id P.files[j].last
    rw [← hb, hs.law _ (List.getElem_mem h2)] at h3
    exact secs_mono (by omega)
  omega
theorem Rm.arm {P : PS} (h : Rm P) (n : Int) : Rm (P.arm n).2 := by
  unfold PS.arm
  split
  · exact h
  · split
    · exact h
    · exact h
theorem Rm.create {P : PS} (h : Rm P) (s : ByteArray) : Rm (P.create s).2 := by
  unfold PS.create
  split
  · exact h
  · split
    · exact h
    · split
      · exact h
      · unfold Rm at *
        show ((usedP (P.files.take (lowerP P.files s) ++ ⟨P.made, s, [], []⟩ :: P.files.drop (lowerP P.files s)) : Nat) : Int) ≤ P.most
        have e : usedP P.files = usedP (P.files.take (lowerP P.files s)) + usedP (P.files.drop (lowerP P.files s)) := by
          unfold usedP
          rw [← List.sum_append, ← List.map_append, List.take_append_drop]
        have e2 : usedP (P.files.take (lowerP P.files s) ++ ⟨P.made, s, [], []⟩ :: P.files.drop (lowerP P.files s)) = usedP P.files := by
          rw [e]
          unfold usedP
          rw [List.map_append, List.sum_append, List.map_cons, List.sum_cons]
          have z : secsP ⟨P.made, s, [], []⟩ = 0 := by unfold secsP secs; simp
          omega
        rw [e2]
        exact h
theorem used_sub {a b : List PF} (h : a.Sublist b) : usedP a ≤ usedP b := by
  induction h with
  | slnil => exact Nat.le_refl _
  | cons x _ ih =>
    unfold usedP at ih ⊢
    rw [List.map_cons, List.sum_cons]
    omega
  | cons_cons x _ ih =>
    unfold usedP at ih ⊢
    rw [List.map_cons, List.sum_cons, List.map_cons, List.sum_cons]
    omega
theorem Rm.remove {P : PS} (h : Rm P) (s : ByteArray) : Rm (P.remove s).2 := by
  unfold PS.remove
  split
  · exact h
  · split
    · exact h
    · unfold Rm at *
      have := used_sub (List.eraseIdx_sublist P.files ‹Nat›)
      show ((usedP (P.files.eraseIdx _) : Nat) : Int) ≤ P.most
      omega
theorem Rm.wput {P : PS} (h : Rm P) (B : List ByteArray) (L : LG) (c : UInt8) (texts : List ByteArray) : Rm (wput P B L c texts).P := by
  obtain ⟨_, _, _, _, hw⟩ := wput_keep P B L c texts
  rcases hw with e | ⟨t, e⟩
  · rw [e]; exact h
  · rw [e]; exact h.write _ _ _
/-- a segment's bytes, as they are seen -/
def FV (P : PS) (n : Nat) (s : List UInt8) : Prop := ∃ i, findI P.files (wname n) = some i ∧ seenAt P i = s
theorem findI_names {a b : List PF} (h : a.map PF.name = b.map PF.name) (s : ByteArray) : findI a s = findI b s := by
  have e : ∀ l : List PF, findI l s = (l.map PF.name).findIdx? fun x => decide (x = s) := fun l => by
    unfold findI
    rw [List.findIdx?_map]
    rfl
  rw [e, e, h]
theorem wrGo_fv : ∀ (m : Nat) (P : PS) (i : Nat) (t : ByteArray), t.size ≤ m → i < P.files.length → (wrGo m P i (seenAt P i).length t).1 = 0 → seenAt (wrGo m P i (seenAt P i).length t).2 i = seenAt P i ++ t.data.toList ∧ (wrGo m P i (seenAt P i).length t).2.off = P.off
  | 0, P, i, t, ht, hi, h => by
    have : t.data.toList = [] := List.length_eq_zero_iff.1 (by rw [size_list]; omega)
    rw [this, List.append_nil]
    exact ⟨rfl, rfl⟩
  | m + 1, P, i, t, ht, hi, h => by
    by_cases h0 : t.size = 0
    · rw [wrGo_done h0]
      have : t.data.toList = [] := List.length_eq_zero_iff.1 (by rw [size_list]; omega)
      rw [this, List.append_nil]
      exact ⟨rfl, rfl⟩
    · by_cases hf : P.fuse = 0
      · rw [wrGo_off ht (by omega) hf] at h
        cases h
      · rw [wrGo_step ht (by omega) hf, Nat.add_sub_cancel] at h ⊢
        obtain ⟨r1, r2, r3⟩ := room_pos (a := (seenAt P i).length) (t := t) (by omega)
        have hs : seenAt (wrStep P i (seenAt P i).length (t.extract 0 (room (seenAt P i).length t))) i = seenAt P i ++ (t.extract 0 (room (seenAt P i).length t)).data.toList := by
          have e : seenAt (wrStep P i (seenAt P i).length (t.extract 0 (room (seenAt P i).length t))) i = layB P.files[i].seen (seenAt P i).length (t.extract 0 (room (seenAt P i).length t)).data.toList := by
            show ((P.files.modify i _)[i]?.map PF.seen).getD [] = _
            rw [List.getElem?_modify, List.getElem?_eq_getElem hi]
            simp
          rw [e, ← seenAt_get hi, layB_end]
        have hl : (seenAt P i).length + room (seenAt P i).length t = (seenAt (wrStep P i (seenAt P i).length (t.extract 0 (room (seenAt P i).length t))) i).length := by
          rw [hs, List.length_append, extract_take, take_size r2]
        rw [hl] at h ⊢
        obtain ⟨k1, k2⟩ := wrGo_fv m (wrStep P i (seenAt P i).length (t.extract 0 (room (seenAt P i).length t))) i (t.extract (room (seenAt P i).length t) t.size) (by rw [rest_size]; omega) (by rw [wrStep_len]; exact hi) h
        refine ⟨?_, k2⟩
        rw [k1, hs, List.append_assoc, toList_split t _ r2]
theorem FV.write {P : PS} {n : Nat} {s : List UInt8} (h : FV P n s) {t : ByteArray} (hz : (P.write (wname n) ((s.length : Nat) : Int) t).1 = 0) : FV (P.write (wname n) ((s.length : Nat) : Int) t).2 n (s ++ t.data.toList) := by
  obtain ⟨i, hi, hs⟩ := h
  have hnm := (nm_write P (wname n) ((s.length : Nat) : Int) t).1
  have hfi := findI_names hnm (wname n)
  refine ⟨i, hfi.trans hi, ?_⟩
  obtain ⟨hl, _⟩ := findI_lt hi
  unfold PS.write at hz ⊢
  by_cases ho : P.off = true
  · rw [if_pos ho] at hz; cases hz
  · rw [if_neg ho, hi] at hz ⊢
    dsimp only at hz ⊢
    split at hz
    · cases hz
    · rename_i hr
      rw [if_neg hr]
      split at hz
      · cases hz
      · rename_i hf
        rw [if_neg hf]
        have e : ((s.length : Nat) : Int).toNat = (seenAt P i).length := by rw [hs]; rfl
        rw [e] at hz ⊢
        rw [← hs]
        exact (wrGo_fv t.size P i t (Nat.le_refl _) hl hz).1
theorem FV.wput {P : PS} {n : Nat} {s : List UInt8} (h : FV P n s) {B recs texts : List ByteArray} {m : ByteArray} (hc : Chn B n recs s m) (c : UInt8) (hz : (wput P B ⟨n, s.length, m⟩ c texts).e = 0) :
    ∃ P' B' s' m', wput P B ⟨n, s.length, m⟩ c texts = ⟨0, P', B', ⟨n, s'.length, m'⟩⟩ ∧ FV P' n s' ∧ Chn B' n (recs ++ texts.map (sig c)) s' m' := by
  by_cases hl : ∃ t ∈ texts, 1048832 < t.size
  · obtain ⟨B', hp⟩ := putAcc_none c texts B m [] hl
    rw [wput_long (L := ⟨n, s.length, m⟩) hp] at hz
    cases hz
  · obtain ⟨B', t, m', hp, hch, _⟩ := putAcc_chn c texts B n recs s m [] hc (fun t ht => Nat.le_of_not_lt (fun hh => hl ⟨t, ht, hh⟩))
    rw [List.nil_append] at hp
    by_cases hw : (P.write (wname n) ((s.length : Nat) : Int) (textOf t)).1 = 0
    · have e := wput_ok (L := ⟨n, s.length, m⟩) hp hw
      have hv := h.write hw
      rw [textOf_list] at hv
      refine ⟨_, B', s ++ t, m', ?_, hv, hch⟩
      rw [e, List.length_append]
    · rw [wput_no (L := ⟨n, s.length, m⟩) hp hw] at hz
      exact absurd hz hw
theorem FV.create {P : PS} {n : Nat} (hz : (P.create (wname n)).1 = 0) : FV (P.create (wname n)).2 n [] := by
  unfold PS.create at hz ⊢
  split at hz
  · cases hz
  · rename_i h1
    rw [if_neg h1]
    split at hz
    · cases hz
    · rename_i h2
      rw [if_neg h2]
      split at hz
      · cases hz
      · rename_i h3
        rw [if_neg h3]
        have hno : findI P.files (wname n) = none := by
          cases hq : findI P.files (wname n) with
          | none => rfl
          | some i => rw [hq] at h3; exact absurd rfl h3
        unfold findI at hno
        rw [List.findIdx?_eq_none_iff] at hno
        have hv : vw { P with files := P.files.take (lowerP P.files (wname n)) ++ ⟨P.made, wname n, [], []⟩ :: P.files.drop (lowerP P.files (wname n)), made := P.made + 1 } = (vw P).take (lowerP P.files (wname n)) ++ (wname n, []) :: (vw P).drop (lowerP P.files (wname n)) := by
          unfold vw
          rw [List.map_append, List.map_cons, List.map_take, List.map_drop]
        exact ⟨_, find_vw hv (fun x hx e => by
          have hm : x ∈ vw P := List.mem_of_mem_take hx
          unfold vw at hm
          obtain ⟨f, hf, rfl⟩ := List.mem_map.1 hm
          have := hno f hf
          have e2 : f.name = wname n := e
          rw [decide_eq_true e2] at this
          cases this)⟩
theorem sealed_log {B : List ByteArray} {n : Nat} {snap : List ByteArray} {s : List UInt8} {m : ByteArray} (h : Chn B n (logRecs snap []) s m) : Sealed B n s := ⟨_, m, h, takes_log snap [], by rw [dec_log]⟩
theorem FV.good {P : PS} {n : Nat} {s : List UInt8} (h : FV P n s) (hs : Snd P) (hz : P.syncR.1 = 0) {B : List ByteArray} (hc : Sealed B n s) : Good P.syncR.2 B n s.length := by
  obtain ⟨i, hi, he⟩ := h
  obtain ⟨hl, hn⟩ := findI_lt hi
  rw [seenAt_get hl] at he
  unfold PS.syncR at hz ⊢
  split at hz
  · cases hz
  · rename_i ho
    rw [if_neg ho]
    refine ⟨P.files[i].id, s, ⟨⟨{ P.files[i] with last := P.files[i].seen }, ?_, rfl, hn, ?_, ?_⟩, fun p hp => ?_⟩, hc⟩
    · show _ ∈ P.sync.files
      rw [hs.sync_eq]
      exact List.mem_map.2 ⟨P.files[i], List.getElem_mem hl, rfl⟩
    · show _ ≤ P.files[i].seen.length
      rw [he]; exact Nat.le_refl _
    · show P.files[i].seen.take _ = s
      rw [he]; exact List.take_length
    · have hp2 : p ∈ P.sync.wait := hp
      rw [hs.sync_eq] at hp2
      cases hp2
/-- a segment begun: whole, and it lasts -/
theorem begin_good {P : PS} (hs : Snd P) (B : List ByteArray) {n : Nat} (snap : List ByteArray) (hz : (wbegin P B n snap).e = 0) : (wbegin P B n snap).L.n = n ∧ Good (wbegin P B n snap).P (wbegin P B n snap).B n (wbegin P B n snap).L.e := by
  unfold wbegin at hz ⊢
  by_cases hc : (P.create (wname n)).1 = 0
  · rw [if_neg (fun h => h hc)] at hz ⊢
    have h0 := hs.create (wname n)
    have f0 := FV.create hc
    generalize (P.create (wname n)).2 = P0 at hz h0 f0 ⊢
    by_cases h1 : (wput P0 B ⟨n, 0, firstM n⟩ 83 snap).e = 0
    · obtain ⟨P1, B1, s1, m1, e1, v1, c1⟩ := f0.wput (Chn.nil B n) 83 h1
      have e1' : wput P0 B ⟨n, 0, firstM n⟩ 83 snap = ⟨0, P1, B1, ⟨n, s1.length, m1⟩⟩ := e1
      have hs1 : Snd P1 := by
        obtain ⟨_, _, _, _, hw⟩ := wput_keep P0 B ⟨n, 0, firstM n⟩ 83 snap
        rw [e1'] at hw
        rcases hw with e | ⟨t, e⟩
        · have e2 : P1 = P0 := e
          rw [e2]; exact h0
        · have e2 : P1 = _ := e
          rw [e2]; exact h0.write _ _ _
      rw [e1'] at hz ⊢
      have ew : wseal ⟨0, P1, B1, ⟨n, s1.length, m1⟩⟩ = wput P1 B1 ⟨n, s1.length, m1⟩ 69 [⟨#[]⟩] := if_pos rfl
      rw [ew] at hz ⊢
      by_cases h2 : (wput P1 B1 ⟨n, s1.length, m1⟩ 69 [⟨#[]⟩]).e = 0
      · obtain ⟨P2, B2, s2, m2, e2, v2, c2⟩ := v1.wput c1 69 h2
        have hs2 : Snd P2 := by
          obtain ⟨_, _, _, _, hw⟩ := wput_keep P1 B1 ⟨n, s1.length, m1⟩ 69 [⟨#[]⟩]
          rw [e2] at hw
          rcases hw with e | ⟨t, e⟩
          · have e3 : P2 = P1 := e
            rw [e3]; exact hs1
          · have e3 : P2 = _ := e
            rw [e3]; exact hs1.write _ _ _
        rw [e2] at hz ⊢
        have es : wsync ⟨0, P2, B2, ⟨n, s2.length, m2⟩⟩ = ⟨P2.syncR.1, P2.syncR.2, B2, ⟨n, s2.length, m2⟩⟩ := if_pos rfl
        rw [es] at hz ⊢
        by_cases h3 : P2.syncR.1 = 0
        · rw [h3] at hz ⊢
          have ed : wdrop n ⟨0, P2.syncR.2, B2, ⟨n, s2.length, m2⟩⟩ = ⟨0, P2.syncR.2, B2, ⟨n, s2.length, m2⟩⟩ := if_neg (fun h => by rcases h with h | h <;> cases h)
          rw [ed]
          exact ⟨rfl, v2.good hs2 h3 (sealed_log (snap := snap) c2)⟩
        · exfalso
          unfold wdrop at hz
          split at hz <;> exact h3 hz
      · exfalso
        have es : wsync (wput P1 B1 ⟨n, s1.length, m1⟩ 69 [⟨#[]⟩]) = wput P1 B1 ⟨n, s1.length, m1⟩ 69 [⟨#[]⟩] := if_neg h2
        rw [es] at hz
        unfold wdrop at hz
        split at hz <;> exact h2 hz
    · exfalso
      have ew : wseal (wput P0 B ⟨n, 0, firstM n⟩ 83 snap) = wput P0 B ⟨n, 0, firstM n⟩ 83 snap := if_neg h1
      have es : wsync (wput P0 B ⟨n, 0, firstM n⟩ 83 snap) = wput P0 B ⟨n, 0, firstM n⟩ 83 snap := if_neg h1
      rw [ew, es] at hz
      unfold wdrop at hz
      split at hz <;> exact h1 hz
  · rw [if_pos hc] at hz
    exact absurd hz hc
/-- what a segment begun leaves of another one, whether or not it succeeds -/
theorem begin_keep {P : PS} (hs : Snd P) (B : List ByteArray) {n : Nat} (snap : List ByteArray) (hn : n < 100000000) :
    (∀ k q, k < 100000000 → Good P B k q → Good (wbegin P B n snap).P (wbegin P B n snap).B k q) ∧ (∀ s, s ≠ wname n → s ∉ nmL P → s ∉ nmL (wbegin P B n snap).P) ∧ (Rm P → Rm (wbegin P B n snap).P) := by
  unfold wbegin
  by_cases hc : (P.create (wname n)).1 = 0
  · rw [if_neg (fun h => h hc)]
    have h0 := hs.create (wname n)
    have g0 : ∀ k q, k < 100000000 → Good P B k q → k ≠ n ∧ Good (P.create (wname n)).2 B k q := fun k q hk hg => by
      refine ⟨fun e => ?_, hg.map (fun id ls hf => hf.create _)⟩
      subst e
      have hm := hg.mem
      obtain ⟨f, hf, hfn⟩ := List.mem_map.1 hm
      have hsm : (findI P.files (wname k)).isSome = true := by
        unfold findI
        rw [List.findIdx?_isSome, List.any_eq_true]
        exact ⟨f, hf, decide_eq_true hfn⟩
      unfold PS.create at hc
      split at hc
      · cases hc
      · split at hc
        · cases hc
        · cases hc
    have r0 : Rm P → Rm (P.create (wname n)).2 := fun h => h.create _
    have n0 : ∀ s, s ≠ wname n → s ∉ nmL P → s ∉ nmL (P.create (wname n)).2 := fun s h1 h2 h3 => by
      obtain ⟨f, hf, hfn⟩ := List.mem_map.1 h3
      unfold PS.create at hf
      split at hf
      · exact h2 (List.mem_map.2 ⟨f, hf, hfn⟩)
      · split at hf
        · exact h2 (List.mem_map.2 ⟨f, hf, hfn⟩)
        · split at hf
          · exact h2 (List.mem_map.2 ⟨f, hf, hfn⟩)
          · have hf2 : f ∈ P.files.take (lowerP P.files (wname n)) ++ (⟨P.made, wname n, [], []⟩ : PF) :: P.files.drop (lowerP P.files (wname n)) := hf
            rcases List.mem_append.1 hf2 with k | k
            · exact h2 (List.mem_map.2 ⟨f, List.mem_of_mem_take k, hfn⟩)
            · rcases List.mem_cons.1 k with rfl | k
              · exact h1 hfn.symm
              · exact h2 (List.mem_map.2 ⟨f, List.mem_of_mem_drop k, hfn⟩)
    -- one stage after the other
    have put : ∀ (a : WR) (c : UInt8) (texts : List ByteArray), Snd a.P → a.L.n = n →
        (∀ k q, k < 100000000 → k ≠ n → Good a.P a.B k q → Good (wput a.P a.B a.L c texts).P (wput a.P a.B a.L c texts).B k q) ∧ nmL (wput a.P a.B a.L c texts).P = nmL a.P ∧ (Rm a.P → Rm (wput a.P a.B a.L c texts).P) ∧ Snd (wput a.P a.B a.L c texts).P ∧ (wput a.P a.B a.L c texts).L.n = n := fun a c texts ha hL => by
      obtain ⟨w1, w2, w3, w4, w5⟩ := wput_keep a.P a.B a.L c texts
      refine ⟨fun k q hk hkn hg => hg.wput ha a.L c texts hk (by omega) (fun e => absurd (e.symm.trans hL) hkn), w3, fun h => h.wput _ _ _ _, ?_, w1.trans hL⟩
      rcases w5 with e | ⟨t, e⟩
      · rw [e]; exact ha
      · rw [e]; exact ha.write _ _ _
    obtain ⟨p1, p2, p3, p4, p5⟩ := put ⟨0, (P.create (wname n)).2, B, ⟨n, 0, firstM n⟩⟩ 83 snap h0 rfl
    generalize ha : wput (P.create (wname n)).2 B ⟨n, 0, firstM n⟩ 83 snap = a at p1 p2 p3 p4 p5
    have q1 : (∀ k q, k < 100000000 → k ≠ n → Good a.P a.B k q → Good (wseal a).P (wseal a).B k q) ∧ nmL (wseal a).P = nmL a.P ∧ (Rm a.P → Rm (wseal a).P) ∧ Snd (wseal a).P := by
      unfold wseal
      split
      · obtain ⟨u1, u2, u3, u4, _⟩ := put a 69 [⟨#[]⟩] p4 p5
        exact ⟨u1, u2, u3, u4⟩
      · exact ⟨fun _ _ _ _ h => h, rfl, fun h => h, p4⟩
    obtain ⟨q1, q2, q3, q4⟩ := q1
    generalize wseal a = c at q1 q2 q3 q4
    have y1 : (∀ k q, k < 100000000 → k ≠ n → Good c.P c.B k q → Good (wsync c).P (wsync c).B k q) ∧ nmL (wsync c).P = nmL c.P ∧ (Rm c.P → Rm (wsync c).P) := by
      unfold wsync
      split
      · refine ⟨fun k q _ _ h => h.map (fun id ls hf => hf.syncR), ?_, fun h => h.syncR q4⟩
        show nmL c.P.syncR.2 = nmL c.P
        unfold PS.syncR
        split
        · rfl
        · exact nm_syncF _ _
      · exact ⟨fun _ _ _ _ h => h, rfl, fun h => h⟩
    obtain ⟨y1, y2, y3⟩ := y1
    generalize wsync c = d at y1 y2 y3
    have z1 : (∀ k q, k < 100000000 → k ≠ n → Good d.P d.B k q → Good (wdrop n d).P (wdrop n d).B k q) ∧ (∀ s, s ∉ nmL d.P → s ∉ nmL (wdrop n d).P) ∧ (Rm d.P → Rm (wdrop n d).P) := by
      unfold wdrop
      split
      · refine ⟨fun k q hk hkn h => h.map (fun id ls hf => hf.remove (fun e => hkn (wname_inj hk hn e.symm))), fun s h1 h2 => ?_, fun h => h.remove _⟩
        have h3 : s ∈ nmL (d.P.remove (wname n)).2 := h2
        obtain ⟨f, hf, hfn⟩ := List.mem_map.1 h3
        unfold PS.remove at hf
        split at hf
        · exact h1 (List.mem_map.2 ⟨f, hf, hfn⟩)
        · split at hf
          · exact h1 (List.mem_map.2 ⟨f, hf, hfn⟩)
          · exact h1 (List.mem_map.2 ⟨f, (List.eraseIdx_sublist _ _).subset hf, hfn⟩)
      · exact ⟨fun _ _ _ _ h => h, fun _ h => h, fun h => h⟩
    obtain ⟨z1, z2, z3⟩ := z1
    refine ⟨fun k q hk hg => ?_, fun s h1 h2 => ?_, fun h => z3 (y3 (q3 (p3 (r0 h))))⟩
    · obtain ⟨hkn, hg0⟩ := g0 k q hk hg
      exact z1 k q hk hkn (y1 k q hk hkn (q1 k q hk hkn (p1 k q hk hkn hg0)))
    · refine z2 s ?_
      rw [y2, q2, p2]
      exact n0 s h1 h2
  · rw [if_pos hc]
    have e : (P.create (wname n)).2 = P := by
      unfold PS.create at hc ⊢
      split
      · rfl
      · split
        · rfl
        · split
          · rfl
          · rename_i a b c
            rw [if_neg a, if_neg b, if_neg c] at hc
            exact absurd rfl hc
    rw [e]
    exact ⟨fun _ _ _ h => h, fun _ _ h => h, fun h => h⟩
/-- a log in hand does no harm to a segment that lasts -/
def Ag (P : PS) (B : List ByteArray) (L : LG) : Prop := Rm P ∧ ∃ n q, n < 100000000 ∧ Good P B n q ∧ ((L.n = n ∧ q ≤ L.e) ∨ (L.n ≠ n ∧ wname L.n ∉ nmL P))
theorem Ag.append {P : PS} {B : List ByteArray} {L : LG} (h : Ag P B L) (hs : Snd P) (hL : L.Ok) (s : ByteArray) : Ag (wappend P B L s).P (wappend P B L s).B (wappend P B L s).L := by
  obtain ⟨hr, n, q, hn, hg, hc⟩ := h
  obtain ⟨w1, w2, w3, w4, w5⟩ := wput_keep P B L 82 [s]
  refine ⟨hr.wput B L 82 [s], n, q, hn, hg.wput hs L 82 [s] hn hL.n (fun e => ?_), ?_⟩
  · rcases hc with h | h
    · exact h.2
    · exact absurd e h.1
  · rcases hc with h | h
    · exact Or.inl ⟨w1.trans h.1, Nat.le_trans h.2 w2⟩
    · refine Or.inr ⟨fun e => h.1 (w1.symm.trans e), ?_⟩
      show wname (wput P B L 82 [s]).L.n ∉ nmL (wput P B L 82 [s]).P
      rw [w1, w3]
      exact h.2
theorem Ag.syncR {P : PS} {B : List ByteArray} {L : LG} (h : Ag P B L) (hs : Snd P) : Ag P.syncR.2 B L := by
  obtain ⟨hr, n, q, hn, hg, hc⟩ := h
  refine ⟨hr.syncR hs, n, q, hn, hg.map (fun id ls hf => hf.syncR), ?_⟩
  have e : nmL P.syncR.2 = nmL P := by
    unfold PS.syncR
    split
    · rfl
    · exact nm_syncF _ _
  rw [e]
  exact hc
theorem Ag.crash {P : PS} {B : List ByteArray} {L : LG} (h : Ag P B L) (hs : Snd P) (l : List Int) : Ag (P.crash l) B L := by
  obtain ⟨hr, n, q, hn, hg, hc⟩ := h
  refine ⟨hr.crash hs l, n, q, hn, hg.map (fun id ls hf => hf.crash l), ?_⟩
  have e : nmL (P.crash l) = nmL P := by
    show ((crashF (P.wait.zip l) P.files).map seenF).map PF.name = _
    rw [List.map_map]
    exact (nm_crashF _ _)
  rw [e]
  exact hc
theorem Ag.arm {P : PS} {B : List ByteArray} {L : LG} (h : Ag P B L) (k : Int) : Ag (P.arm k).2 B L := by
  obtain ⟨hr, n, q, hn, hg, hc⟩ := h
  refine ⟨hr.arm k, n, q, hn, hg.map (fun id ls hf => hf.arm k), ?_⟩
  have e : nmL (P.arm k).2 = nmL P := by
    unfold PS.arm
    split
    · rfl
    · split <;> rfl
  rw [e]
  exact hc
theorem Ag.turn {P : PS} {B : List ByteArray} {L : LG} (h : Ag P B L) (hs : Snd P) (hL : L.Ok) (snap : List ByteArray) : Ag (wturn P B L snap).P (wturn P B L snap).B (wturn P B L snap).L := by
  obtain ⟨hr, n, q, hn, hg, hc⟩ := h
  have hLn := hL.n
  unfold wturn
  split
  · exact ⟨hr, n, q, hn, hg, hc⟩
  · rename_i h9
    obtain ⟨b1, b2, b3⟩ := begin_keep hs B (n := L.n + 1) snap (by omega)
    split
    · refine ⟨b3 hr, n, q, hn, b1 n q hn hg, ?_⟩
      rcases hc with k | k
      · exact Or.inl k
      · exact Or.inr ⟨k.1, b2 _ (fun e => by have := wname_inj hLn (by omega) e; omega) k.2⟩
    · rename_i hz
      have hz : (wbegin P B (L.n + 1) snap).e = 0 := by
        cases Decidable.em ((wbegin P B (L.n + 1) snap).e = 0) with
        | inl h => exact h
        | inr h => exact absurd h hz
      obtain ⟨g1, g2⟩ := begin_good hs B snap hz
      exact ⟨(b3 hr).remove _, L.n + 1, (wbegin P B (L.n + 1) snap).L.e, by omega, g2.map (fun id ls hf => hf.remove (fun e => by have := wname_inj hLn (by omega) e; omega)), Or.inl ⟨g1, Nat.le_refl _⟩⟩
end Go.Proofs.YtkllnihhhgaojaaGreatDoor
namespace Go.Proofs.YtkllnihhhgaojaaGreatDoor
open Go Go.RowKit
set_option linter.unusedVariables false

/-- nothing waits, the power is on and does not fail -/
structure Still (P : PS) : Prop where
  off : P.off = false
  fuse : P.fuse < 0
  wait : P.wait = []
  last : ∀ f ∈ P.files, f.last = f.seen
theorem Still.crash (P : PS) (l : List Int) : Still (P.crash l) := ⟨rfl, by show (-1 : Int) < 0; omega, rfl, fun f hf => by
  obtain ⟨g, hg, rfl⟩ := List.mem_map.1 hf
  rfl⟩
theorem mem_segs {P : PS} {f : PF} (hf : f ∈ P.files) {n : Nat} (hn : n < 100000000) (h : f.name = wname n) : n ∈ segsP P := by
  unfold segsP segsL
  rw [List.mem_filterMap]
  exact ⟨f.name, List.mem_reverse.2 (List.mem_map.2 ⟨f, hf, rfl⟩), by rw [h]; exact wnum_name n hn⟩
theorem find_mem {P : PS} (hnd : (P.files.map PF.name).Nodup) {f : PF} (hf : f ∈ P.files) : ∃ i, findI P.files f.name = some i ∧ seenAt P i = f.seen := by
  obtain ⟨j, hj, rfl⟩ := List.mem_iff_getElem.1 hf
  refine ⟨j, ?_, seenAt_get hj⟩
  unfold findI
  rw [List.findIdx?_eq_some_iff_getElem]
  refine ⟨hj, decide_eq_true rfl, fun k hk => ?_⟩
  have hkl : k < P.files.length := by omega
  have := List.pairwise_iff_getElem.1 hnd k j (by rw [List.length_map]; exact hkl) (by rw [List.length_map]; exact hj) hk
  rw [List.getElem_map, List.getElem_map] at this
  simpa using this
theorem loadP_find {P : PS} {n i : Nat} (ho : P.off = false) (hi : findI P.files (wname n) = some i) (B : List ByteArray) : loadP P B n = some (loadGo B ((seenAt P i).length + 1) ⟨0, firstM n, false, []⟩ (seenAt P i)) := by
  have hz : P.size (wname n) = ((((seenAt P i).length : Nat) : Int), 0) := by
    rw [size_some ho hi]
    have e : seenI P i = (seenAt P i).length := by
      unfold seenI seenAt
      cases P.files[i]? <;> rfl
    rw [e]
  have hr : P.read (wname n) 0 (P.size (wname n)).1 = (textOf (seenAt P i), 0) := by
    rw [hz]
    unfold PS.read
    rw [if_neg (by rw [ho]; decide), hi]
    show (if (0 : Int) < 0 ∨ (((seenAt P i).length : Nat) : Int) < 0 then _ else _) = _
    rw [if_neg (by omega)]
    show (textOf (((seenAt P i).drop 0).take (seenAt P i).length), (0 : Int)) = _
    rw [List.drop_zero, List.take_length]
  unfold loadP
  rw [hr, hz, if_neg (fun h => h rfl), if_neg (fun h => h rfl)]
  show some (loadGo B ((textOf (seenAt P i)).size + 1) ⟨0, firstM n, false, []⟩ (textOf (seenAt P i)).data.toList) = _
  rw [textOf_list, textOf_size]
theorem chain_len (B : List ByteArray) : ∀ (recs : List ByteArray) (m : ByteArray), recs.length ≤ (chainL B m recs).length
  | [], m => Nat.zero_le _
  | r :: rs, m => by
    have := chain_len B rs (markOf B (joinT m r))
    have e1 : (chainL B m (r :: rs)).length = (recL B m r).length + (chainL B (markOf B (joinT m r)) rs).length := List.length_append
    rw [e1, recL_length, List.length_cons]
    omega
theorem lstep_sealed {s : ByteArray} {sd : Bool} {t : List ByteArray} (h : lstep true s = some (sd, t)) : sd = true := by
  unfold lstep at h
  split at h
  · injection h with h; injection h with h _; exact h.symm
  · split at h
    · injection h with h; injection h with h _; exact h.symm
    · cases h
theorem loadGo_sealed {B : List ByteArray} : ∀ (f : Nat) (o : LO) (l : List UInt8), (o.sealed = true → (loadGo B f o l).sealed = true) ∧ o.e ≤ (loadGo B f o l).e
  | 0, o, l => ⟨fun h => h, Nat.le_refl _⟩
  | f + 1, o, l => by
    cases hn : nextP B o.m l with
    | none => rw [loadGo_end hn]; exact ⟨fun h => h, Nat.le_refl _⟩
    | some sm =>
      obtain ⟨s, m⟩ := sm
      cases hs : lstep o.sealed s with
      | none => rw [loadGo_stop hn hs]; exact ⟨fun h => h, Nat.le_refl _⟩
      | some st =>
        obtain ⟨sd, t⟩ := st
        rw [loadGo_step hn hs]
        obtain ⟨h1, h2⟩ := loadGo_sealed f ⟨o.e + (36 + s.size), m, sd, o.out ++ t⟩ (l.drop (36 + s.size))
        exact ⟨fun h => h1 (by rw [h] at hs; exact lstep_sealed hs), Nat.le_trans (Nat.le_add_right _ _) h2⟩
/-- records at the head are read, whatever follows -/
theorem loadGo_thru {B : List ByteArray} : ∀ (recs : List ByteArray) (f e : Nat) (m : ByteArray) (sd : Bool) (out : List ByteArray) (r : List UInt8), ChainIn B m recs → Takes sd recs → recs.length ≤ f →
    loadGo B f ⟨e, m, sd, out⟩ (chainL B m recs ++ r) = loadGo B (f - recs.length) ⟨e + (chainL B m recs).length, lastM B m recs, (dec (sd, out) recs).1, (dec (sd, out) recs).2⟩ r
  | [], f, e, m, sd, out, r, _, _, hf => rfl
  | s :: rs, f, e, m, sd, out, r, hc, ht, hf => by
    obtain ⟨g, rfl⟩ : ∃ g, f = g + 1 := ⟨f - 1, by simp at hf; omega⟩
    obtain ⟨h1, h2, h3, h4⟩ := hc
    obtain ⟨sd2, t, hl, ht2⟩ := ht
    have e0 : chainL B m (s :: rs) ++ r = recL B m s ++ (chainL B (markOf B (joinT m s)) rs ++ r) := List.append_assoc _ _ _
    have hnx := next_rec (chainL B (markOf B (joinT m s)) rs ++ r) h2 h3 h1
    have hlen := recL_length B m s
    rw [e0, loadGo_step (o := ⟨e, m, sd, out⟩) hnx hl, ← hlen, List.drop_left]
    rw [loadGo_thru rs g _ _ sd2 _ r h4 ht2 (by simp at hf; omega), dec_some (st := (sd, out)) hl]
    have e1 : (chainL B m (s :: rs)).length = (recL B m s).length + (chainL B (markOf B (joinT m s)) rs).length := List.length_append
    rw [e1, hlen, List.length_cons, Nat.add_sub_add_right]
    show loadGo B _ ⟨e + (36 + s.size) + _, _, _, _⟩ r = loadGo B _ ⟨e + (36 + s.size + _), _, _, _⟩ r
    rw [Nat.add_assoc e]
    rfl
/-- what is loaded is a chain of records at the head -/
theorem loadGo_sound {B : List ByteArray} : ∀ (f : Nat) (o : LO) (l : List UInt8), ∃ recs, ChainIn B o.m recs ∧ Takes o.sealed recs ∧ dec (o.sealed, o.out) recs = ((loadGo B f o l).sealed, (loadGo B f o l).out) ∧ (loadGo B f o l).m = lastM B o.m recs ∧ (loadGo B f o l).e = o.e + (chainL B o.m recs).length ∧ ∃ r, l = chainL B o.m recs ++ r
  | 0, o, l => ⟨[], trivial, trivial, rfl, rfl, rfl, l, rfl⟩
  | f + 1, o, l => by
    cases hn : nextP B o.m l with
    | none => rw [loadGo_end hn]; exact ⟨[], trivial, trivial, rfl, rfl, rfl, l, rfl⟩
    | some sm =>
      obtain ⟨s, m⟩ := sm
      cases hs : lstep o.sealed s with
      | none => rw [loadGo_stop hn hs]; exact ⟨[], trivial, trivial, rfl, rfl, rfl, l, rfl⟩
      | some st =>
        obtain ⟨sd, t⟩ := st
        rw [loadGo_step hn hs]
        obtain ⟨hB, rfl, h1, h2, r, rfl⟩ := next_sound hn
        have hlen := recL_length B o.m s
        obtain ⟨recs, k1, k2, k3, k4, k5, r2, k6⟩ := loadGo_sound f ⟨o.e + (36 + s.size), markOf B (joinT o.m s), sd, o.out ++ t⟩ ((recL B o.m s ++ r).drop (36 + s.size))
        refine ⟨s :: recs, ⟨hB, h1, h2, k1⟩, ⟨sd, t, hs, k2⟩, ?_, k4, ?_, r2, ?_⟩
        · rw [dec_some (st := (o.sealed, o.out)) hs]
          exact k3
        · rw [k5]
          have e1 : (chainL B o.m (s :: recs)).length = (recL B o.m s).length + (chainL B (markOf B (joinT o.m s)) recs).length := List.length_append
          rw [e1, hlen]
          show o.e + (36 + s.size) + _ = o.e + (36 + s.size + _)
          rw [Nat.add_assoc]
        · rw [← hlen, List.drop_left] at k6
          rw [k6]
          exact (List.append_assoc _ _ _).symm
theorem valL_zeros (k : Nat) : valL (List.replicate k 0) = 0 := by
  match k with
  | 0 => rfl
  | 1 => rfl
  | 2 => rfl
  | 3 => rfl
  | k + 4 => rfl
theorem next_zeros (B : List ByteArray) (m : ByteArray) (k : Nat) : nextP B m (List.replicate k 0) = none := by
  by_cases h : (List.replicate k (0 : UInt8)).length < 36
  · exact next_short h
  · exact next_bad h (Or.inl (by rw [valL_zeros]; omega))
theorem all_zeros : ∀ (l : List UInt8), (l.all fun b => b == 0) = true → l = List.replicate l.length 0
  | [], _ => rfl
  | a :: l, h => by
    rw [List.all_cons, Bool.and_eq_true] at h
    have ha : a = 0 := by simpa using h.1
    rw [List.length_cons, List.replicate_succ, ← all_zeros l h.2, ha]
theorem layB_tail (s : List UInt8) (e : Nat) (he : e ≤ s.length) : layB s e (List.replicate (s.length - e) 0) = s.take e ++ List.replicate (s.length - e) 0 := by
  unfold layB
  rw [List.length_replicate, show e - s.length = 0 by omega, List.replicate_zero, List.append_nil, List.drop_eq_nil_of_le (by omega), List.append_nil]
/-- what stands behind a log's end is made noughts, and lasts -/
theorem One.wiped {P : PS} {n e : Nat} {m : ByteArray} {s : List UInt8} {most : Int} (h : One P n s most) (he : e ≤ s.length) (hz : s.length ≤ 2097152) (hw : P.wait = []) (hls : ∀ f ∈ P.files, f.last = f.seen) :
    ∃ P', wwipe P ⟨n, e, m⟩ = (0, P') ∧ One P' n (s.take e ++ List.replicate (s.length - e) 0) most ∧ P'.wait = [] ∧ ∀ f ∈ P'.files, f.last = f.seen := by
  have hr := h.read (p := e) (k := s.length - e)
  have ek : ((s.length - e : Nat) : Int) = ((s.length : Nat) : Int) - ((e : Nat) : Int) := by omega
  rw [ek] at hr
  obtain ⟨h1, h2, h3⟩ := h.find
  have htl : (textOf ((s.drop e).take (s.length - e))).size = s.length - e := by rw [textOf_size, List.length_take, List.length_drop]; omega
  have htd : (textOf ((s.drop e).take (s.length - e))).data.toList = s.drop e := by
    rw [textOf_list, List.take_of_length_le (by rw [List.length_drop]; exact Nat.le_refl _)]
  generalize textOf ((s.drop e).take (s.length - e)) = t at hr htl htd
  have hzs := zeros_size t.size
  unfold wwipe
  show ∃ P', (if (P.size (wname n)).2 ≠ 0 then _ else _ : Int × PS) = (0, P') ∧ _
  rw [h.size]
  show ∃ P', (if (P.read (wname n) (e : Int) (((s.length : Nat) : Int) - ((e : Nat) : Int))).2 ≠ 0 then _ else _ : Int × PS) = (0, P') ∧ _
  rw [hr]
  show ∃ P', (if allZero t = true then (0, P) else if (P.write (wname n) (e : Int) (zeros t.size)).1 ≠ 0 then P.write (wname n) (e : Int) (zeros t.size) else (P.write (wname n) (e : Int) (zeros t.size)).2.syncR : Int × PS) = (0, P') ∧ _
  by_cases ha : allZero t = true
  · rw [if_pos ha]
    refine ⟨P, rfl, ?_, hw, hls⟩
    have hq := all_zeros t.data.toList ha
    rw [htd, List.length_drop] at hq
    rw [← hq, List.take_append_drop]
    exact h
  · rw [if_neg ha]
    have h0 : ¬ t.size = 0 := fun h0 => ha (by
      unfold allZero
      have : t.data.toList = [] := List.length_eq_zero_iff.1 (by rw [size_list]; exact h0)
      rw [this]
      rfl)
    have key : ∃ P2, P.write (wname n) (e : Int) (zeros t.size) = (0, P2) ∧ One P2 n (s.take e ++ List.replicate (s.length - e) 0) most := by
      obtain ⟨hl, _⟩ := findI_lt h1
      have hle := h.snd.len (List.getElem_mem hl)
      have hs0 : P.files[0].seen = s := by rw [← seenAt_get hl]; exact h2
      have hsec : secsI P 0 = secs s.length := by
        unfold secsI
        rw [List.getElem?_eq_getElem hl]
        show secsP P.files[0] = _
        unfold secsP
        rw [Nat.max_eq_left hle, hs0]
      have hrm := h.room
      have hmo := h.most_
      have hsn := h.snd.write (wname n) (e : Int) (zeros t.size)
      have hwr : P.write (wname n) (e : Int) (zeros t.size) = (0, wrDone P 0 (zeros t.size).size e (zeros t.size)) := by
        rw [write_eq h.off h1 (by omega), hsec, h3, hzs, if_neg (fun hh => by
          have e1 : e + t.size = s.length := by omega
          have h5 := hh.2
          rw [e1] at h5
          omega), wrGo_all _ _ _ _ _ (by rw [hzs]; exact Nat.le_refl _) (by omega) (Or.inl h.fuse)]
      rw [hwr] at hsn ⊢
      obtain ⟨f, hfl, hn, hs⟩ := h.file
      have hf := h.fuse
      refine ⟨_, rfl, hsn, ⟨{ f with seen := s.take e ++ List.replicate (s.length - e) 0 }, ?_, hn, rfl⟩, h.off, ?_, h.most_, ?_⟩
      · show P.files.modify 0 _ = _
        rw [hfl]
        show [{ f with seen := layB f.seen e (zeros t.size).data.toList }] = _
        have ez : (zeros t.size).data.toList = List.replicate (s.length - e) 0 := by
          rw [htl]
          show (List.replicate (s.length - e) (0 : UInt8)).toArray.toList = _
          simp
        rw [ez, hs, layB_tail s e he]
      · show (if 0 ≤ P.fuse then _ else P.fuse) < 0
        rw [if_neg (by omega)]
        exact hf
      · rw [List.length_append, List.length_take, List.length_replicate, Nat.min_eq_left he, Nat.add_sub_cancel' he]
        exact hrm
    obtain ⟨P2, k1, k2⟩ := key
    rw [k1, if_neg (fun h => h rfl)]
    obtain ⟨q1, q2, q3, q4, _⟩ := k2.syncR
    refine ⟨P2.syncR.2, ?_, q2, q3, q4⟩
    show P2.syncR = _
    rw [← q1]
/-- a log whose records are whole, noughts behind it: found again, nothing turned -/
theorem One.open2 {P : PS} {n : Nat} {c : List UInt8} {z : Nat} {most : Int} (h : One P n (c ++ List.replicate z 0) most) (hn : n < 100000000) {B recs out : List ByteArray} {m : ByteArray} (hc : Chn B n recs c m) (ht : Takes false recs) (hd : dec (false, []) recs = (true, out)) :
    wopen P B = ⟨0, P, ⟨n, c.length, m⟩, out⟩ := by
  have hno : ¬ (P.off = true) := by rw [h.off]; decide
  obtain ⟨h1, h2, h3⟩ := h.find
  have hld : loadP P B n = some ⟨c.length, m, true, out⟩ := by
    rw [loadP_find h.off h1, h2]
    have hlen := chain_len B recs (firstM n)
    rw [← hc.bytes] at hlen
    have hg := loadGo_all (B := B) recs ((c ++ List.replicate z 0).length + 1) 0 (firstM n) false [] (List.replicate z 0) hc.inB ht (by rw [List.length_append]; omega) (next_zeros B _ z)
    rw [← hc.bytes, ← hc.mark, hd] at hg
    rw [hg, Nat.zero_add]
  have hwp : wwipe P ⟨n, c.length, m⟩ = (0, P) := by
    unfold wwipe
    have hr := h.read (p := c.length) (k := z)
    rw [List.drop_left, List.take_of_length_le (by rw [List.length_replicate]; exact Nat.le_refl _)] at hr
    have e0 : P.read (wname n) ((c.length : Nat) : Int) ((P.size (wname n)).1 - ((c.length : Nat) : Int)) = (textOf (List.replicate z 0), 0) := by
      rw [h.size, List.length_append, List.length_replicate]
      have e : (((c.length + z : Nat) : Int) - ((c.length : Nat) : Int)) = ((z : Nat) : Int) := by omega
      rw [← hr, ← e]
    show (if (P.size (wname n)).2 ≠ 0 then _ else _) = _
    rw [e0, h.size, if_neg (fun h => h rfl), if_neg (fun h => h rfl)]
    refine if_pos ?_
    unfold allZero
    rw [textOf_list, List.all_eq_true]
    intro x hx
    rw [List.eq_of_mem_replicate hx]
    rfl
  have hrb : removeBut [n] n P = P := by
    show (if n ≠ n then _ else P) = P
    rw [if_neg (fun h => h rfl)]
  unfold wopen
  rw [if_neg hno, h.segs hn, openGo_take hld rfl]
  unfold wtake
  rw [hrb]
  show (if (wwipe P ⟨n, c.length, m⟩).1 ≠ 0 then _ else _) = _
  rw [hwp, if_neg (fun h => h rfl)]
theorem erase_vw (s : ByteArray) : ∀ (fs : List PF), (fs.map PF.name).Nodup → (match findI fs s with | none => fs | some i => fs.eraseIdx i) = fs.filter fun f => decide (f.name ≠ s)
  | [], _ => rfl
  | f :: fs, h => by
    rw [List.map_cons, List.nodup_cons] at h
    have ih := erase_vw s fs h.2
    unfold findI at ih ⊢
    rw [List.findIdx?_cons]
    by_cases hf : f.name = s
    · rw [decide_eq_true hf]
      have hfil : (f :: fs).filter (fun f => decide (f.name ≠ s)) = fs := by
        rw [List.filter_cons, if_neg (by simp [hf])]
        rw [List.filter_eq_self]
        intro g hg
        refine decide_eq_true (fun e => h.1 ?_)
        rw [hf, ← e]
        exact List.mem_map.2 ⟨g, hg, rfl⟩
      rw [hfil]
      rfl
    · rw [decide_eq_false hf]
      have hfil : (f :: fs).filter (fun f => decide (f.name ≠ s)) = f :: fs.filter (fun f => decide (f.name ≠ s)) := by
        rw [List.filter_cons, if_pos (by simp [hf])]
      rw [hfil, ← ih]
      show (match Option.map (fun i => i + 1) (List.findIdx? (fun f => decide (f.name = s)) fs) with | none => f :: fs | some i => (f :: fs).eraseIdx i) = _
      cases List.findIdx? (fun f => decide (f.name = s)) fs <;> rfl
theorem remove_vw {P : PS} (ho : P.off = false) (hn : (P.files.map PF.name).Nodup) (s : ByteArray) : (P.remove s).2.files = P.files.filter (fun f => decide (f.name ≠ s)) ∧ (P.remove s).2.off = false := by
  have h := erase_vw s P.files hn
  unfold PS.remove
  rw [if_neg (by rw [ho]; decide)]
  cases hf : findI P.files s with
  | none => rw [hf] at h; exact ⟨h, ho⟩
  | some i => rw [hf] at h; exact ⟨h, ho⟩
theorem remove_keep (P : PS) (s : ByteArray) : (P.remove s).2.fuse = P.fuse ∧ (P.remove s).2.most = P.most := by
  unfold PS.remove
  split
  · exact ⟨rfl, rfl⟩
  · split <;> exact ⟨rfl, rfl⟩
theorem names_nodup {n : Nat} {P : PS} (h : OkP n P) : (P.files.map PF.name).Nodup := by
  unfold List.Nodup
  rw [List.pairwise_map]
  refine h.names.imp (fun {a b} hab e => ?_)
  rw [e, cmp_self] at hab
  omega
theorem filter_one {s : ByteArray} : ∀ (fs : List PF) (f : PF), (fs.map PF.name).Nodup → f ∈ fs → f.name = s → fs.filter (fun f => decide (f.name = s)) = [f]
  | [], f, _, hf, _ => by cases hf
  | g :: fs, f, hn, hf, hs => by
    rw [List.map_cons, List.nodup_cons] at hn
    rcases List.mem_cons.1 hf with rfl | hf
    · rw [List.filter_cons, if_pos (by simp [hs])]
      congr 1
      rw [List.filter_eq_nil_iff]
      intro g hg
      rw [decide_eq_true_eq]
      exact fun e => hn.1 (by rw [hs, ← e]; exact List.mem_map.2 ⟨g, hg, rfl⟩)
    · rw [List.filter_cons, if_neg (by
        rw [decide_eq_true_eq]
        exact fun e => hn.1 (by rw [e, ← hs]; exact List.mem_map.2 ⟨f, hf, rfl⟩))]
      exact filter_one fs f hn.2 hf hs
theorem removeBut_files (m : Nat) : ∀ (ns : List Nat) {P : PS}, Snd P → Still P → (P.files.map PF.name).Nodup → (removeBut ns m P).files = P.files.filter (fun f => decide (∀ k ∈ ns, k ≠ m → f.name ≠ wname k)) ∧ Snd (removeBut ns m P) ∧ (removeBut ns m P).off = false ∧ (removeBut ns m P).fuse = P.fuse ∧ (removeBut ns m P).most = P.most ∧ (removeBut ns m P).wait = []
  | [], P, hs, h, hn => ⟨by
      show P.files = _
      rw [List.filter_eq_self.2]
      intro f hf
      simp, hs, h.off, rfl, rfl, h.wait⟩
  | k :: ns, P, hs, h, hn => by
    by_cases hk : k = m
    · have e : removeBut (k :: ns) m P = removeBut ns m P := by
        show removeBut ns m (if k ≠ m then _ else P) = _
        rw [if_neg (fun hh => hh hk)]
      rw [e]
      obtain ⟨h1, h2⟩ := removeBut_files m ns hs h hn
      refine ⟨?_, h2⟩
      rw [h1]
      apply List.filter_congr
      intro f hf
      rw [decide_eq_decide]
      exact ⟨fun q j hj hjm => by
        rcases List.mem_cons.1 hj with rfl | hj
        · exact absurd hk hjm
        · exact q j hj hjm, fun q j hj hjm => q j (List.mem_cons.2 (Or.inr hj)) hjm⟩
    · have e : removeBut (k :: ns) m P = removeBut ns m (P.remove (wname k)).2 := by
        show removeBut ns m (if k ≠ m then _ else P) = _
        rw [if_pos hk]
      rw [e]
      obtain ⟨v1, v2⟩ := remove_vw h.off hn (wname k)
      obtain ⟨w1, w2⟩ := remove_keep P (wname k)
      have hw : (P.remove (wname k)).2.wait = [] := by
        unfold PS.remove
        split
        · exact h.wait
        · split
          · exact h.wait
          · show P.wait.filter _ = []
            rw [h.wait]
            rfl
      have hn2 : ((P.remove (wname k)).2.files.map PF.name).Nodup := by
        rw [v1]
        exact hn.sublist ((List.filter_sublist).map _)
      have hst : Still (P.remove (wname k)).2 := ⟨v2, by rw [w1]; exact h.fuse, hw, fun f hf => by
        rw [v1] at hf
        exact h.last f (List.mem_filter.1 hf).1⟩
      obtain ⟨h1, h2, h3, h4, h5, h6⟩ := removeBut_files m ns (hs.remove (wname k)) hst hn2
      refine ⟨?_, h2, h3, h4.trans w1, h5.trans w2, h6⟩
      rw [h1, v1, List.filter_filter]
      apply List.filter_congr
      intro f hf
      rw [Bool.eq_iff_iff]
      simp only [Bool.and_eq_true, decide_eq_true_eq, List.mem_cons, forall_eq_or_imp]
      exact ⟨fun q => ⟨fun _ => q.2, q.1⟩, fun q => ⟨q.2, q.1 hk⟩⟩
theorem open_first {P : PS} {B : List ByteArray} (all : List Nat) {n : Nat} {o : LO} (hl : loadP P B n = some o) (hs : o.sealed = true) : ∀ r : List Nat, n ∈ r → ∃ m ∈ r, ∃ o', loadP P B m = some o' ∧ o'.sealed = true ∧ openGo all P B r = wtake all m o' P
  | [], h => by cases h
  | k :: r, h => by
    cases hk : loadP P B k with
    | none =>
      rcases List.mem_cons.1 h with rfl | h
      · rw [hl] at hk; cases hk
      · obtain ⟨m, hm, o', h1, h2, h3⟩ := open_first all hl hs r h
        exact ⟨m, List.mem_cons.2 (Or.inr hm), o', h1, h2, by rw [openGo_none hk]; exact h3⟩
    | some ok =>
      cases hsk : ok.sealed with
      | true => exact ⟨k, List.mem_cons.2 (Or.inl rfl), ok, hk, hsk, openGo_take hk hsk⟩
      | false =>
        rcases List.mem_cons.1 h with rfl | h
        · rw [hl] at hk
          injection hk with hk
          rw [hk] at hs
          rw [hs] at hsk
          cases hsk
        · obtain ⟨m, hm, o', h1, h2, h3⟩ := open_first all hl hs r h
          exact ⟨m, List.mem_cons.2 (Or.inr hm), o', h1, h2, by rw [openGo_open hk hsk]; exact h3⟩
/-- what opening finds behind a crash -/
structure Found (P' : PS) (B : List ByteArray) (m : Nat) (c : List UInt8) (z : Nat) (mk : ByteArray) (out : List ByteArray) : Prop where
  lt : m < 100000000
  one : One P' m (c ++ List.replicate z 0) 300
  wait : P'.wait = []
  last : ∀ f ∈ P'.files, f.last = f.seen
  chn : ∃ recs, Chn B m recs c mk ∧ Takes false recs ∧ dec (false, []) recs = (true, out)
theorem Found.again {P' : PS} {B : List ByteArray} {m z : Nat} {c : List UInt8} {mk : ByteArray} {out : List ByteArray} (h : Found P' B m c z mk out) : wopen P' B = ⟨0, P', ⟨m, c.length, mk⟩, out⟩ := by
  obtain ⟨recs, h1, h2, h3⟩ := h.chn
  exact h.one.open2 h.lt h1 h2 h3
theorem Found.crash {P' : PS} {B : List ByteArray} {m z : Nat} {c : List UInt8} {mk : ByteArray} {out : List ByteArray} (h : Found P' B m c z mk out) (l : List Int) : wopen (P'.crash l) B = ⟨0, P'.crash l, ⟨m, c.length, mk⟩, out⟩ := by
  obtain ⟨recs, h1, h2, h3⟩ := h.chn
  exact (h.one.crash h.wait h.last l).open2 h.lt h1 h2 h3
theorem open_still {P : PS} {B : List ByteArray} {q0 n q : Nat} (hg : Gd P) (hok : OkP q0 P) (hr : Rm P) (hst : Still P) (hn : n < 100000000) (hgd : Good P B n q) :
    ∃ P' m c z mk out, wopen P B = ⟨0, P', ⟨m, c.length, mk⟩, out⟩ ∧ Found P' B m c z mk out ∧ wname m ∈ nmL P ∧ (m = n → q ≤ c.length ∧ Good P' B n q) := by
  have hnd := names_nodup hok
  obtain ⟨id, ls, ⟨⟨f, hf, hid, hfn, hfq, hfl⟩, _⟩, recs, mk0, hch, htk, hdc⟩ := hgd
  obtain ⟨i, hi, hsi⟩ := find_mem hnd hf
  rw [hfn] at hi
  have hld := loadP_find hst.off hi B
  have hfs := hst.last f hf
  -- the segment that lasts is found whole
  have hsee : seenAt P i = chainL B (firstM n) recs ++ f.seen.drop q := by
    rw [hsi, ← hch.bytes, ← hfl, hfs, List.take_append_drop]
  have hql : (chainL B (firstM n) recs).length = q := by
    rw [← hch.bytes, ← hfl, List.length_take]
    exact Nat.min_eq_left hfq
  have hlen := chain_len B recs (firstM n)
  have hgo : (loadGo B ((seenAt P i).length + 1) ⟨0, firstM n, false, []⟩ (seenAt P i)).sealed = true ∧ q ≤ (loadGo B ((seenAt P i).length + 1) ⟨0, firstM n, false, []⟩ (seenAt P i)).e := by
    have hsl := congrArg List.length hsee
    rw [List.length_append] at hsl
    have ht := loadGo_thru (B := B) recs ((seenAt P i).length + 1) 0 (firstM n) false [] (f.seen.drop q) hch.inB htk (by omega)
    rw [← hsee] at ht
    rw [ht]
    obtain ⟨k1, k2⟩ := loadGo_sealed (B := B) ((seenAt P i).length + 1 - recs.length) ⟨0 + (chainL B (firstM n) recs).length, lastM B (firstM n) recs, (dec (false, []) recs).1, (dec (false, []) recs).2⟩ (f.seen.drop q)
    refine ⟨k1 hdc, Nat.le_trans ?_ k2⟩
    show q ≤ 0 + (chainL B (firstM n) recs).length
    omega
  obtain ⟨m, hm, o, hlm, hsm, hop⟩ := open_first (segsP P) hld hgo.1 (segsP P) (mem_segs hf hn hfn)
  have hml := segsL_lt m hm
  have hno : ¬ (P.off = true) := by rw [hst.off]; decide
  have hwo : wopen P B = wtake (segsP P) m o P := by
    unfold wopen
    rw [if_neg hno, hop]
  -- the file that is taken
  obtain ⟨j, hj⟩ : ∃ j, findI P.files (wname m) = some j := by
    cases hq : findI P.files (wname m) with
    | some j => exact ⟨j, rfl⟩
    | none =>
      unfold loadP at hlm
      rw [size_none hst.off hq, if_pos (by decide)] at hlm
      cases hlm
  obtain ⟨hjl, hjn⟩ := findI_lt hj
  have hsj := seenAt_get hjl
  have hlm2 := loadP_find hst.off hj B
  rw [hlm] at hlm2
  injection hlm2 with ho
  obtain ⟨h1, h2, h3, h4, h5, h6⟩ := removeBut_files m (segsP P) hg.snd hst hnd
  have hfil : (removeBut (segsP P) m P).files = [P.files[j]] := by
    rw [h1, ← filter_one P.files P.files[j] hnd (List.getElem_mem hjl) hjn]
    apply List.filter_congr
    intro g hgm
    rw [decide_eq_decide]
    constructor
    · intro hq
      obtain ⟨k, hk, hkn⟩ := hg.nms g.name (List.mem_map.2 ⟨g, hgm, rfl⟩)
      by_cases hkm : k = m
      · rw [hkn, hkm]
      · exact absurd hkn (hq k (mem_segs hgm hk hkn) hkm)
    · intro hq k hk hkm e
      exact hkm (wname_inj (segsL_lt k hk) hml (e.symm.trans hq))
  have hsml := hok.small _ (List.getElem_mem hjl)
  have hone : One (removeBut (segsP P) m P) m (seenAt P j) 300 := by
    refine ⟨h2, ⟨P.files[j], hfil, hjn, hsj.symm⟩, h3, by rw [h4]; exact hst.fuse, h5.trans hg.most, ?_⟩
    have hu : secsP P.files[j] ≤ usedP P.files := by
      have := used_sub (List.singleton_sublist.2 (List.getElem_mem hjl))
      unfold usedP at this ⊢
      simpa using this
    have hs : secs (seenAt P j).length ≤ secsP P.files[j] := by
      rw [hsj]
      unfold secsP
      exact secs_mono (Nat.le_max_left _ _)
    have hrm := hr
    unfold Rm at hrm
    rw [hg.most] at hrm
    omega
  obtain ⟨rs, k1, k2, k3, k4, k5, r, k6⟩ := loadGo_sound (B := B) ((seenAt P j).length + 1) ⟨0, firstM m, false, []⟩ (seenAt P j)
  rw [← ho] at k3 k4 k5
  have k5' : o.e = (chainL B (firstM m) rs).length := by rw [k5]; exact Nat.zero_add _
  have k6' : seenAt P j = chainL B (firstM m) rs ++ r := k6
  have htake : (seenAt P j).take o.e = chainL B (firstM m) rs := by rw [k6', k5', List.take_left]
  have hle : o.e ≤ (seenAt P j).length := by rw [k6', k5', List.length_append]; omega
  obtain ⟨P', w1, w2, w3, w4⟩ := hone.wiped (e := o.e) (m := o.m) hle (by rw [hsj]; exact hsml.1) h6 (fun g hgm => by
    rw [hfil] at hgm
    rw [List.mem_singleton.1 hgm]
    exact hst.last _ (List.getElem_mem hjl))
  have hd : dec (false, []) rs = (true, o.out) := by
    have e : dec (false, []) rs = (o.sealed, o.out) := k3
    rw [e, hsm]
  have hc : Chn B m rs ((seenAt P j).take o.e) o.m := ⟨htake, k4, k1⟩
  have hcl : ((seenAt P j).take o.e).length = o.e := by rw [List.length_take]; exact Nat.min_eq_left hle
  refine ⟨P', m, (seenAt P j).take o.e, (seenAt P j).length - o.e, o.m, o.out, ?_, ⟨hml, w2, w3, w4, rs, hc, k2, hd⟩, List.mem_map.2 ⟨P.files[j], List.getElem_mem hjl, hjn⟩, ?_⟩
  · rw [hwo, hcl]
    unfold wtake
    rw [w1, if_neg (fun h => h rfl)]
  · rintro rfl
    have hij : i = j := by rw [hi] at hj; injection hj
    subst hij
    have hqe : q ≤ o.e := by rw [ho]; exact hgo.2
    refine ⟨by rw [hcl]; exact hqe, ?_⟩
    obtain ⟨g, g1, g2, g3⟩ := w2.file
    have hgl := w4 g (by rw [g1]; exact List.mem_singleton.2 rfl)
    refine ⟨g.id, ls, ⟨⟨g, by rw [g1]; exact List.mem_singleton.2 rfl, rfl, g2, ?_, ?_⟩, fun p hp => by rw [w3] at hp; cases hp⟩, recs, mk0, hch, htk, hdc⟩
    · rw [hgl, g3, List.length_append, hcl]
      omega
    · rw [hgl, g3, List.take_append_of_le_length (by rw [hcl]; exact hqe), List.take_take, Nat.min_eq_left hqe, hsi, ← hfs]
      exact hfl
theorem Found.good {P' : PS} {B : List ByteArray} {m z : Nat} {c : List UInt8} {mk : ByteArray} {out : List ByteArray} (h : Found P' B m c z mk out) : Good P' B m c.length ∧ nmL P' = [wname m] ∧ Rm P' := by
  obtain ⟨g, g1, g2, g3⟩ := h.one.file
  have hgl := h.last g (by rw [g1]; exact List.mem_singleton.2 rfl)
  obtain ⟨recs, h1, h2, h3⟩ := h.chn
  refine ⟨⟨g.id, c, ⟨⟨g, by rw [g1]; exact List.mem_singleton.2 rfl, rfl, g2, ?_, ?_⟩, fun p hp => by rw [h.wait] at hp; cases hp⟩, recs, mk, h1, h2, by rw [h3]⟩, ?_, ?_⟩
  · rw [hgl, g3, List.length_append]; omega
  · rw [hgl, g3, List.take_left]
  · unfold nmL
    rw [g1, ← g2]
    rfl
  · unfold Rm
    rw [h.one.find.2.2, h.one.most_]
    exact h.one.room
/-- a log opened: whatever log is in hand does no harm -/
theorem Ag.open {P : PS} {B : List ByteArray} {L : LG} {q0 : Nat} (h : Ag P B L) (hg : Gd P) (hok : OkP q0 P) (hst : Still P) : Ag (wopen P B).P B L ∧ Ag (wopen P B).P B (wopen P B).L := by
  obtain ⟨hr, n, q, hn, hgd, hc⟩ := h
  obtain ⟨P', m, c, z, mk, out, e, hf, hm, hmn⟩ := open_still hg hok hr hst hn hgd
  rw [e]
  obtain ⟨g1, g2, g3⟩ := hf.good
  have hml := hf.lt
  refine ⟨⟨g3, ?_⟩, g3, m, c.length, hml, g1, Or.inl ⟨rfl, Nat.le_refl _⟩⟩
  show ∃ n q, n < 100000000 ∧ Good P' B n q ∧ ((L.n = n ∧ q ≤ L.e) ∨ (L.n ≠ n ∧ wname L.n ∉ nmL P'))
  by_cases hLm : wname L.n = wname m
  · rcases hc with k | k
    · have hmn2 : m = n := (wname_inj (by omega) hml (hLm)).symm.trans k.1
      obtain ⟨_, h2⟩ := hmn hmn2
      exact ⟨n, q, hn, h2, Or.inl k⟩
    · exact absurd (by rw [hLm]; exact hm) k.2
  · refine ⟨m, c.length, hml, g1, Or.inr ⟨fun e => hLm (by rw [e]), ?_⟩⟩
    rw [g2]
    exact fun hh => hLm (List.mem_singleton.1 hh)
/-- opened behind a crash, opened again, and again behind another crash: the same -/
theorem again_pl {P : PS} {B : List ByteArray} {L : LG} {q0 : Nat} (h : Ag P B L) (hg : Gd P) (hok : OkP q0 P) : ∃ P' L' out, wopen (P.crash []) B = ⟨0, P', L', out⟩ ∧ wopen P' B = ⟨0, P', L', out⟩ ∧ wopen (P'.crash []) B = ⟨0, P'.crash [], L', out⟩ := by
  obtain ⟨hr, n, q, hn, hgd, hc⟩ := h.crash hg.snd []
  obtain ⟨P', m, c, z, mk, out, e, hf, _⟩ := open_still (hg.crash []) (hok.crash []) hr (Still.crash P []) hn hgd
  exact ⟨P', _, out, e, hf.again, hf.crash []⟩
/-- a log begun on a new device -/
theorem Ag.one {P : PS} {B snap more : List ByteArray} {n : Nat} {s : List UInt8} {m : ByteArray} (h : One P n s 300) (hn : n < 100000000) (hw : P.wait = []) (hl : ∀ f ∈ P.files, f.last = f.seen) (hc : Chn B n (logRecs snap more) s m) : Ag P B ⟨n, s.length, m⟩ := by
  have hf : Found P B n s 0 m (snap ++ more) := ⟨hn, by rw [List.replicate_zero, List.append_nil]; exact h, hw, hl, _, hc, takes_log snap more, by rw [dec_log]; rfl⟩
  obtain ⟨g1, g2, g3⟩ := hf.good
  exact ⟨g3, n, s.length, hn, g1, Or.inl ⟨rfl, Nat.le_refl _⟩⟩
end Go.Proofs.YtkllnihhhgaojaaGreatDoor
namespace Go.Proofs.YtkllnihhhgaojaaGreatDoor
open Go Go.RowKit
set_option linter.unusedVariables false

theorem row_nil (W : World) (base : Nat) (hb : base ≤ W.heap.size) : (W.alloc (.cells #[] 9)).ownsRow base 9 1 (.slice (some ⟨W.heap.size, 0, none⟩) 0 0) 0 (strVals []) := World.ownsRow_lit W #[] 0 hb (Nat.zero_le _) rfl
/-- the statement's world, with what it may hold after j calls -/
def SdI (I : PS → List ByteArray → LG → Prop) (w0 : World) (b k mb wa j : Nat) (w : World) : Prop := ∃ lg P Bk L n av sv al sl safe turned, Wd w0 b k mb wa lg P Bk L n av sv al sl safe turned w ∧ Bk.length ≤ 10 * j + 10 ∧ n ≤ 4194306 + j * 4194305 ∧ al.length ≤ 2097152 + j ∧ sl.length ≤ 8 ∧ I P Bk L
def Sd (w0 : World) (b k mb wa j : Nat) (w : World) : Prop := SdI Ag w0 b k mb wa j w
def SdC (w0 : World) (b k mb wa j : Nat) (w : World) : Prop := SdI (fun P B L => Ag P B L ∧ Still P) w0 b k mb wa j w
set_option maxRecDepth 100000 in
set_option maxHeartbeats 4000000 in
theorem reopen_any {w0 w : World} {b k mb wa j : Nat} (h : SdC w0 b k mb wa j w) (hj : j ≤ 100) :
    Calls Tryz.prog 26 #[.pointer (some ⟨wa, 0, none⟩)] w fun e w' => ∃ r, e = .returned (.bool r) ∧ Sd w0 b k mb wa (j + 1) w' := by
  obtain ⟨lg, P, Bk, L, n, av, sv, al, sl, safe, turned, h1, h2, h3, h4, h5, hag⟩ := h
  have hO := fun (W : World) (hb : Below w.heap.size w W) => own_open (h1.own.below hb) (by omega) (by omega) (h1.own.ok.open Bk)
  obtain ⟨hol, hoL⟩ := wopen_out h1.own.ok Bk
  have hgd := h1.gd.open Bk
  have HAg := Lib.hid (hag.1.open h1.gd h1.own.ok hag.2)
  clear hag
  have H1 := Lib.hid h1
  obtain ⟨ua, uc, hu⟩ := row_shape h1.arow
  obtain ⟨sa, sc, hsv⟩ := row_shape h1.srow
  subst hu
  subst hsv
  have c0 : w.cell? ⟨wa, 0, none⟩ = some (.pointer (some ⟨b, 0, none⟩)) := h1.wat.cell 0
  have c1 : w.cell? ⟨wa, 1, none⟩ = some (.pointer (some ⟨k, 0, none⟩)) := h1.wat.cell 1
  have hA0 : Hid (Below w.heap.size w w.drew) := Lib.hid (Below.refl _ w).drew
  generalize hR : wopen P Bk = R at hO hol hoL hgd HAg
  have HgL := Lib.hid (And.intro hgd hoL)
  by_cases he : R.e = 0
  · have HO := Lib.hid (fun (W : World) (hb : Hid (Below w.heap.size w W)) => (show Calls Tryz.prog 15 #[.pointer (some ⟨b, 0, none⟩), .pointer (some ⟨k, 0, none⟩)] W fun e w' => ∃ lg2 ra rc, e = .returned (.tuple #[.pointer (some ⟨lg2, 0, none⟩), .slice ra R.out.length rc, .int .i64 0]) ∧ (w'.cell? ⟨wa, 0, none⟩ = some (.pointer (some ⟨b, 0, none⟩)) ∧ w'.cell? ⟨wa, 1, none⟩ = some (.pointer (some ⟨k, 0, none⟩))) ∧ Hid (LogAt w' lg2 b k R.L ∧ w0.heap.size ≤ lg2 ∧ w'.ownsRow w0.heap.size 9 1 (.slice ra R.out.length rc) R.out.length (strVals R.out) ∧ Wd w0 b k mb wa lg R.P Bk L (n + 2097152) (.slice ua al.length uc) (.slice sa sl.length sc) al sl safe turned w') from by
      refine (hO W hb.out).mono ?_
      rintro e w' ⟨ho, hk, ⟨h0, _⟩ | ⟨_, lg2, v, hlg, rfl, hl, hr⟩⟩
      · exact absurd he h0
      · obtain ⟨h9, hrk⟩ := (H1.out.below hb.out).same ho HgL.out.1 hk
        obtain ⟨ra, rc, rfl⟩ := row_shape hr
        have hsz : w0.heap.size ≤ W.heap.size := (H1.out.own.below hb.out).sz
        exact ⟨lg2, ra, rc, rfl, ⟨h9.wat.cell 0, h9.wat.cell 1⟩, Lib.hid ⟨hl, Nat.le_trans hsz hlg, row_base hr hsz, h9⟩⟩))
    have hR1 : R.out.length ≤ 2097152 := hol
    generalize hN : R.out.length = N at HO hR1
    generalize R.P = P2 at HO HgL HAg
    generalize R.L = L2 at HO HgL HAg
    generalize R.out = out at HO hN
    clear hO hol hoL hgd hR h1
    go_enter Tryz.func26, Tryz.ntmps26
    go_upto_region 1 with (fail)
    go_region_held3 (fun w' => w'.cell? ⟨wa, 0, none⟩ = some (.pointer (some ⟨b, 0, none⟩)) ∧ w'.cell? ⟨wa, 1, none⟩ = some (.pointer (some ⟨k, 0, none⟩)))
      (first | exact hc6 | go_keep)
      ((go_at_call 15; refine (HO.out _ (by assumption)).mono ?_; rintro e w6 ⟨lg2, ra, rc, rfl, hc6, h6⟩))
    clear HO hA0 c0 c1 hc6
    have d3 : w6.cell? ⟨wa, 3, none⟩ = some (.slice ua al.length uc) := h6.out.2.2.2.wat.cell 3
    have d4 : w6.cell? ⟨wa, 4, none⟩ = some (.int .i64 safe) := h6.out.2.2.2.wat.cell 4
    have d5 : w6.cell? ⟨wa, 5, none⟩ = some (.bool turned) := h6.out.2.2.2.wat.cell 5
    have d6 : w6.cell? ⟨wa, 6, none⟩ = some (.slice sa sl.length sc) := h6.out.2.2.2.wat.cell 6
    have HBg := Lib.hid (fun (q : Nat) => (show Calls Tryz.prog 17 #[.slice ra N rc, .slice ua al.length uc, .int .i64 safe] (w6.drewN q) fun e w' => e = .returned (.bool (beginsB out al safe)) ∧ ∃ m, w' = (w6.drewN q).drewN m from by
      have hr := h6.out.2.2.1
      have hb := below_drewN (Below.refl w6.heap.size w6) q
      rw [← hN] at hr ⊢
      have hs1 := RowIs.strs (x := ra) (y := rc) ⟨_, ownsRow_below hr hb⟩
      have hs2 := RowIs.strs (x := ua) (y := uc) ⟨_, ownsRow_below h6.out.2.2.2.arow hb⟩
      exact begins_q ra rc out ua uc al safe _ hs1 hs2 (by omega)))
    have HSm := Lib.hid (fun (q : Nat) => (show Calls Tryz.prog 22 #[.slice ra N rc, .slice sa sl.length sc] (w6.drewN q) fun e w' => e = .returned (.bool (sameB out sl)) ∧ ∃ m, w' = (w6.drewN q).drewN m from by
      have hr := h6.out.2.2.1
      have hb := below_drewN (Below.refl w6.heap.size w6) q
      rw [← hN] at hr ⊢
      have hs1 := RowIs.strs (x := ra) (y := rc) ⟨_, ownsRow_below hr hb⟩
      have hs2 := RowIs.strs (x := sa) (y := sc) ⟨_, ownsRow_below h6.out.2.2.2.srow hb⟩
      exact same_q ra rc out sa sc sl _ hs1 hs2 (by omega)))
    generalize beginsB out al safe = R1 at HBg
    generalize sameB out sl = R2 at HSm
    go_upto_region 4 with (fail)
    go_cut [46] (fun v wx => ∃ r, v = .bool r ∧ Hid (Below w6.heap.size w6 wx))
    case first =>
      clear h6
      cases R1 <;> cases turned <;> cases R2
      all_goals
        go_quiet (first
          | (go_at_call 17; exact Calls.quiet_of (HBg.out _))
          | (go_at_call 22; exact Calls.quiet_of (HSm.out _)))
        go_wp2_with fail
        go_meet
        exact ⟨_, rfl, Lib.hid (below_drewN (Below.refl _ _) _)⟩
    case rest =>
      obtain ⟨r, rfl, HB⟩ := hcut
      clear HBg HSm d3 d4 d5 d6
      cases r
      · have H9 := Lib.hid (h6.out.2.2.2.below HB.out)
        have HRv := Lib.hid (ownsRow_below h6.out.2.2.1 HB.out)
        have HLg := Lib.hid (Blk.below h6.out.1 HB.out)
        have hlg2 := h6.out.2.1
        have f2 : wc.frozen? ⟨wa, 2, none⟩ = false := H9.out.wat.free 2
        have e2 : wc.cell? ⟨wa, 2, none⟩ = some (.pointer (some ⟨lg, 0, none⟩)) := H9.out.wat.cell 2
        clear h6
        go_upto_region 6 with (fail)
        go_cut [] (fun wx => Hid (Wd w0 b k mb wa lg2 P2 Bk L2 (n + 2097152) (.slice ua al.length uc) (.slice sa sl.length sc) al sl safe turned wx ∧ wx.ownsRow w0.heap.size 9 1 (.slice ra N rc) N (strVals out)))
        case first =>
          go_wp2_with fail
          go_meet
          refine Lib.hid ⟨H9.out.set (Below.refl _ _) H9.out.arow H9.out.srow HLg.out hlg2 HgL.out.2 2 _ rfl, ?_⟩
          exact row_touch HRv.out (touch1_set (Touch.refl _ wc) _) (fun g hg e => row_ne HRv.out H9.out.wat (by decide) (by rw [hg, e]))
        case rest =>
          have H7 := hcut
          clear hcut H9 HRv HLg f2 e2
          have hw7 : Below wc.heap.size wc (wc.alloc (.cells #[] 9)) := (Below.refl _ wc).alloc (Nat.le_refl _) _
          have HRv := Lib.hid (ownsRow_below H7.out.2 hw7)
          have hbs : wc.heap.size ≤ (wc.alloc (.cells #[] 9)).heap.size := hw7.size
          go_upto_region 7 with (fail)
          go_cut [] (fun wx => ∃ va vc, Hid (Wd w0 b k mb wa lg2 P2 Bk L2 (n + 2097152) (.slice va N vc) (.slice sa sl.length sc) out sl safe turned wx))
          case first =>
            go_wp2_with (at_builtin; refine wpList_append_rows rfl _ _ rfl wc.heap.size w0.heap.size (.slice (some ⟨wc.heap.size, 0, none⟩) 0 0) (.slice ra N rc) 0 N N [] out rfl rfl (row_nil wc _ (Nat.le_refl _)) HRv.out (by omega) (by omega) hbs ?_; intro va vc w8 hr8 hb8; have hb78 := hw7.trans hb8; have f3 : w8.frozen? ⟨wa, 3, none⟩ = false := (Blk.below H7.out.1.wat hb78).free 3; have e3 : w8.cell? ⟨wa, 3, none⟩ = some (.slice ua al.length uc) := (Blk.below H7.out.1.wat hb78).cell 3)
            go_wp2_with fail
            go_meet
            refine ⟨va, vc, Lib.hid (H7.out.1.set hb78 ?_ (ownsRow_below H7.out.1.srow hb78) (Blk.below H7.out.1.log hb78) hlg2 HgL.out.2 3 _ rfl)⟩
            rw [hN]
            exact row_base hr8 H7.out.1.own.sz
          case rest =>
            obtain ⟨va, vc, H8⟩ := hcut
            clear H7 hw7 HRv hbs
            have f4 : wc.frozen? ⟨wa, 4, none⟩ = false := H8.out.wat.free 4
            have e4 : wc.cell? ⟨wa, 4, none⟩ = some (.int .i64 safe) := H8.out.wat.cell 4
            go_upto_region 8 with (fail)
            go_cut [] (fun wx => Hid (Wd w0 b k mb wa lg2 P2 Bk L2 (n + 2097152) (.slice va N vc) (.slice sa sl.length sc) out sl (N : Int) turned wx))
            case first =>
              go_wp2_with fail
              go_meet
              exact Lib.hid (H8.out.set (Below.refl _ _) H8.out.arow H8.out.srow H8.out.log hlg2 HgL.out.2 4 _ rfl)
            case rest =>
              have H10 := hcut
              clear hcut H8 f4 e4
              have f5 : wc.frozen? ⟨wa, 5, none⟩ = false := H10.out.wat.free 5
              have e5 : wc.cell? ⟨wa, 5, none⟩ = some (.bool turned) := H10.out.wat.cell 5
              go_wp2_with fail
              go_ret
              exact ⟨_, rfl, lg2, P2, Bk, L2, _, _, _, out, sl, (N : Int), false, H10.out.set (Below.refl _ _) H10.out.arow H10.out.srow H10.out.log hlg2 HgL.out.2 5 _ rfl, by omega, by omega, by omega, h5, HAg.out.2⟩
      · have H9 := Lib.hid (h6.out.2.2.2.below HB.out)
        clear h6
        go_wp2_with fail
        go_ret
        exact ⟨_, rfl, lg, P2, Bk, L, _, _, _, al, sl, safe, turned, H9.out, by omega, by omega, by omega, h5, HAg.out.1⟩
  · have HO := Lib.hid (fun (W : World) (hb : Hid (Below w.heap.size w W)) => (show Calls Tryz.prog 15 #[.pointer (some ⟨b, 0, none⟩), .pointer (some ⟨k, 0, none⟩)] W fun e w' => e = .returned (.tuple #[.pointer none, .slice none 0 0, .int .i64 R.e]) ∧ (w'.cell? ⟨wa, 0, none⟩ = some (.pointer (some ⟨b, 0, none⟩)) ∧ w'.cell? ⟨wa, 1, none⟩ = some (.pointer (some ⟨k, 0, none⟩))) ∧ Hid (Wd w0 b k mb wa lg R.P Bk L (n + 2097152) (.slice ua al.length uc) (.slice sa sl.length sc) al sl safe turned w') from by
      refine (hO W hb.out).mono ?_
      rintro e w' ⟨ho, hk, ⟨_, rfl⟩ | ⟨h0, _⟩⟩
      · obtain ⟨h9, hrk⟩ := (H1.out.below hb.out).same ho HgL.out.1 hk
        exact ⟨rfl, ⟨h9.wat.cell 0, h9.wat.cell 1⟩, Lib.hid h9⟩
      · exact absurd h0 he))
    generalize R.e = re at HO he
    generalize R.P = P2 at HO HgL HAg
    have heb : (re == 0) = false := by simpa using he
    clear hO hol hoL hgd hR h1
    go_enter Tryz.func26, Tryz.ntmps26
    go_upto_region 1 with (fail)
    go_region_held3 (fun w' => w'.cell? ⟨wa, 0, none⟩ = some (.pointer (some ⟨b, 0, none⟩)) ∧ w'.cell? ⟨wa, 1, none⟩ = some (.pointer (some ⟨k, 0, none⟩)))
      (first | exact hc6 | go_keep)
      ((go_at_call 15; refine (HO.out _ (by assumption)).mono ?_; rintro e w6 ⟨rfl, hc6, h6⟩))
    clear HO hA0 c0 c1 hc6
    go_wp2_with fail
    go_ret
    exact ⟨_, rfl, lg, P2, Bk, L, _, _, _, al, sl, safe, turned, h6.out, by omega, by omega, by omega, h5, HAg.out.1⟩
end Go.Proofs.YtkllnihhhgaojaaGreatDoor
namespace Go.Proofs.YtkllnihhhgaojaaGreatDoor
open Go Go.RowKit
set_option linter.unusedVariables false

theorem Wd.up {w0 w : World} {b k mb wa lg n : Nat} {P : PS} {Bk al sl : List ByteArray} {L : LG} {av sv : Value} {safe : Int} {turned : Bool} (h : Wd w0 b k mb wa lg P Bk L n av sv al sl safe turned w) :
    Calls Tryz.prog 48 #[.pointer (some ⟨b, 0, none⟩)] w fun e w' => e = .returned (.bool (!P.off)) ∧ w = w' := by
  obtain ⟨S, hp, hR, hf⟩ := h.own.dev
  subst hp
  exact up_any b S w hR.dev
set_option maxRecDepth 100000 in
set_option maxHeartbeats 4000000 in
theorem turned_any {w0 w : World} {b k mb wa j : Nat} (h : Sd w0 b k mb wa j w) (hj : j ≤ 100) {x : Option Addr} {y : Nat} {snap : List ByteArray} (hrow : w.ownsRow w0.heap.size 9 1 (.slice x snap.length y) snap.length (strVals snap)) (hsl : snap.length ≤ 8) :
    Calls Tryz.prog 49 #[.pointer (some ⟨wa, 0, none⟩), .slice x snap.length y] w fun e w' => ∃ r, e = .returned (.bool r) ∧ Sd w0 b k mb wa (j + 1) w' := by
  obtain ⟨lg, P, Bk, L, n, av, sv, al, sl, safe, turned, h1, h2, h3, h4, h5, hag⟩ := h
  have HAg := Lib.hid (hag.turn h1.gd.snd h1.lok snap)
  clear hag
  have H1 := Lib.hid h1
  obtain ⟨ua, uc, hu⟩ := row_shape h1.arow
  obtain ⟨sa, sc, hsv⟩ := row_shape h1.srow
  subst hu
  subst hsv
  have HT := Lib.hid (show Calls Tryz.prog 19 #[.pointer (some ⟨lg, 0, none⟩), .slice x snap.length y] w fun e w' => e = .returned (.int .i64 (wturn P Bk L snap).e) ∧ Hid (Wd w0 b k mb wa lg (wturn P Bk L snap).P (wturn P Bk L snap).B (wturn P Bk L snap).L (n + 4194305) (.slice ua al.length uc) (.slice sa sl.length sc) al sl safe turned w' ∧ w'.ownsRow w0.heap.size 9 1 (.slice x snap.length y) snap.length (strVals snap)) from by
    obtain ⟨ad2, cap2, e2, hs⟩ := readsStrs_own (ss := snap) hrow
    injection e2 with e2 _ _
    subst e2
    have hok : (wturn P Bk L snap).L.Ok := by
      have hn := h1.lok.n
      unfold wturn
      split
      · exact h1.lok
      · split
        · exact h1.lok
        · exact wbegin_L (by rename_i h9 _; omega) snap
    refine (own_turn h1.own h1.lgb h1.log h1.lok (by omega) hs (fun S hR hf _ g' off' e => ?_) (by omega) (by omega)).mono ?_
    · obtain ⟨h7, h8⟩ := row_beside hR hrow (by decide) g' (by rw [e]; rfl)
      exact ⟨h7, h8, fun h => h⟩
    · rintro e w' ⟨rfl, ho, hl, hk⟩
      obtain ⟨h9, hrk⟩ := h1.next (ho.mono (m := n + 4194305) (by omega)) hl hok (h1.gd.turn Bk h1.lok snap) hk
      exact ⟨rfl, Lib.hid ⟨h9, hrk _ _ _ _ hrow⟩⟩)
  have hBl : (wturn P Bk L snap).B.length ≤ 10 * (j + 1) + 10 := by
    have hb := wbegin_B P Bk (L.n + 1) snap
    unfold wturn
    split
    · show Bk.length ≤ _; omega
    · split
      · show (wbegin P Bk (L.n + 1) snap).B.length ≤ _; omega
      · show (wbegin P Bk (L.n + 1) snap).B.length ≤ _; omega
  have c0 : w.cell? ⟨wa, 0, none⟩ = some (.pointer (some ⟨b, 0, none⟩)) := h1.wat.cell 0
  have c2 : w.cell? ⟨wa, 2, none⟩ = some (.pointer (some ⟨lg, 0, none⟩)) := h1.wat.cell 2
  have HUp := Lib.hid h1.up
  have HSg := Lib.hid (logSegment_any lg b k L w h1.log)
  generalize wturn P Bk L snap = R at HT hBl HAg
  generalize (!P.off) = U at HUp
  clear h1 hrow
  go_enter Tryz.func49, Tryz.ntmps49
  go_wp2_with fail
  refine HUp.out.mono ?_
  rintro e w1 ⟨rfl, rfl⟩
  go_wp2_with fail
  refine HSg.out.mono ?_
  rintro e w1 ⟨rfl, rfl⟩
  go_wp2_with fail
  refine HT.out.mono ?_
  rintro e w3 ⟨rfl, h3r⟩
  clear HT HUp HSg c0 c2 H1
  have HUp3 := Lib.hid h3r.out.1.up
  have HSg3 := Lib.hid (logSegment_any lg b k R.L w3 h3r.out.1.log)
  have c0 : w3.cell? ⟨wa, 0, none⟩ = some (.pointer (some ⟨b, 0, none⟩)) := h3r.out.1.wat.cell 0
  have c2 : w3.cell? ⟨wa, 2, none⟩ = some (.pointer (some ⟨lg, 0, none⟩)) := h3r.out.1.wat.cell 2
  have c3 : w3.cell? ⟨wa, 3, none⟩ = some (.slice ua al.length uc) := h3r.out.1.wat.cell 3
  have c4 : w3.cell? ⟨wa, 4, none⟩ = some (.int .i64 safe) := h3r.out.1.wat.cell 4
  have c5 : w3.cell? ⟨wa, 5, none⟩ = some (.bool turned) := h3r.out.1.wat.cell 5
  have c6 : w3.cell? ⟨wa, 6, none⟩ = some (.slice sa sl.length sc) := h3r.out.1.wat.cell 6
  have f3 : w3.frozen? ⟨wa, 3, none⟩ = false := h3r.out.1.wat.free 3
  have f4 : w3.frozen? ⟨wa, 4, none⟩ = false := h3r.out.1.wat.free 4
  have f5 : w3.frozen? ⟨wa, 5, none⟩ = false := h3r.out.1.wat.free 5
  have f6 : w3.frozen? ⟨wa, 6, none⟩ = false := h3r.out.1.wat.free 6
  by_cases he0 : R.e = 0
  · have HK := Lib.hid (show Wd w0 b k mb wa lg R.P R.B R.L (n + 4194305) (.slice x snap.length y) (.slice sa sl.length sc) snap sl (snap.length : Int) false (((w3.setCell ⟨wa, 3, none⟩ (.slice x snap.length y)).setCell ⟨wa, 4, none⟩ (.int .i64 (snap.length : Int))).setCell ⟨wa, 5, none⟩ (.bool false)) from by
      have k1 := h3r.out.1.set (Below.refl _ _) (av2 := .slice x snap.length y) (al2 := snap) h3r.out.2 h3r.out.1.srow h3r.out.1.log h3r.out.1.lgb h3r.out.1.lok 3 _ rfl
      have k2 := k1.set (Below.refl _ _) k1.arow k1.srow k1.log k1.lgb k1.lok (safe2 := (snap.length : Int)) 4 _ rfl
      exact k2.set (Below.refl _ _) k2.arow k2.srow k2.log k2.lgb k2.lok (turned2 := false) 5 _ rfl)
    generalize R.e = re at he0 ⊢
    subst he0
    cases U
    · go_wp2_with fail
      go_ret
      exact ⟨_, rfl, lg, R.P, R.B, R.L, _, _, _, snap, sl, _, _, HK.out, by omega, by omega, by omega, h5, HAg.out⟩
    · go_wp2_with fail
      refine (logSegment_any lg b k R.L _ HK.out.log).mono ?_
      rintro e w4 ⟨rfl, rfl⟩
      go_wp2_with fail
      go_ret
      exact ⟨_, rfl, lg, R.P, R.B, R.L, _, _, _, snap, sl, _, _, HK.out, by omega, by omega, by omega, h5, HAg.out⟩
  · by_cases he14 : R.e = 14
    · generalize R.e = re at he14 ⊢
      subst he14
      clear he0
      cases U
      · go_wp2_with fail
        refine HUp3.out.mono ?_
        rintro e w4 ⟨rfl, rfl⟩
        go_wp2_with fail
        go_ret
        exact ⟨_, rfl, lg, R.P, R.B, R.L, _, _, _, al, sl, _, _, h3r.out.1, by omega, by omega, by omega, h5, HAg.out⟩
      · have HK := Lib.hid (show Wd w0 b k mb wa lg R.P R.B R.L (n + 4194305) (.slice ua al.length uc) (.slice x snap.length y) al snap safe true ((w3.setCell ⟨wa, 5, none⟩ (.bool true)).setCell ⟨wa, 6, none⟩ (.slice x snap.length y)) from by
          have k1 := h3r.out.1.set (Below.refl _ _) h3r.out.1.arow h3r.out.1.srow h3r.out.1.log h3r.out.1.lgb h3r.out.1.lok (turned2 := true) 5 _ rfl
          have hrow5 : (w3.setCell ⟨wa, 5, none⟩ (.bool true)).ownsRow w0.heap.size 9 1 (.slice x snap.length y) snap.length (strVals snap) := row_touch h3r.out.2 (touch1_set (Touch.refl _ w3) _) (fun g hg e => row_ne h3r.out.2 h3r.out.1.wat (by decide) (by rw [hg, e]))
          exact k1.set (Below.refl _ _) (sv2 := .slice x snap.length y) (sl2 := snap) k1.arow hrow5 k1.log k1.lgb k1.lok 6 _ rfl)
        go_wp2_with fail
        refine HK.out.up.mono ?_
        rintro e w4 ⟨rfl, rfl⟩
        go_wp2_with fail
        go_ret
        exact ⟨_, rfl, lg, R.P, R.B, R.L, _, _, _, al, snap, _, _, HK.out, by omega, by omega, by omega, hsl, HAg.out⟩
    · have hb0 : (R.e == 0) = false := by simpa using he0
      have hb14 : (R.e == 14) = false := by simpa using he14
      generalize R.e = re at he0 he14 hb0 hb14 ⊢
      by_cases he7 : re = 7
      · subst he7
        cases U
        · go_wp2_with fail
          go_ret
          exact ⟨_, rfl, lg, R.P, R.B, R.L, _, _, _, al, sl, _, _, h3r.out.1, by omega, by omega, by omega, h5, HAg.out⟩
        · go_wp2_with fail
          refine HSg3.out.mono ?_
          rintro e w4 ⟨rfl, rfl⟩
          go_wp2_with fail
          go_ret
          exact ⟨_, rfl, lg, R.P, R.B, R.L, _, _, _, al, sl, _, _, h3r.out.1, by omega, by omega, by omega, h5, HAg.out⟩
      · have hb7 : (re == 7) = false := by simpa using he7
        go_wp2_with fail
        go_ret
        exact ⟨_, rfl, lg, R.P, R.B, R.L, _, _, _, al, sl, _, _, h3r.out.1, by omega, by omega, by omega, h5, HAg.out⟩
end Go.Proofs.YtkllnihhhgaojaaGreatDoor
namespace Go.Proofs.YtkllnihhhgaojaaGreatDoor
open Go Go.RowKit
set_option linter.unusedVariables false

theorem n_up {n j : Nat} (h : n ≤ 4194306 + j * 4194305) : n ≤ 4194306 + (j + 1) * 4194305 := Nat.le_trans h (Nat.add_le_add_left (Nat.mul_le_mul_right _ (Nat.le_succ j)) _)
def opVals (kind nn : Int) (text : ByteArray) (sa : Option Addr) (sn sc : Nat) (fa : Option Addr) (fn fc : Nat) : List Value := [.int .i64 kind, .int .i64 nn, .string text, .slice sa sn sc, .slice fa fn fc]
theorem Wd.append {w0 w : World} {b k mb wa lg n : Nat} {P : PS} {Bk al sl : List ByteArray} {L : LG} {av sv : Value} {safe : Int} {turned : Bool} (h : Wd w0 b k mb wa lg P Bk L n av sv al sl safe turned w) (hn : n ≤ 890000000) (hB : Bk.length + 1 ≤ 1000000000) (s : ByteArray) :
    Calls Tryz.prog 11 #[.pointer (some ⟨lg, 0, none⟩), .string s] w fun e w' => e = .returned (.int .i64 (wappend P Bk L s).e) ∧ Wd w0 b k mb wa lg (wappend P Bk L s).P (wappend P Bk L s).B (wappend P Bk L s).L (n + 2097152) av sv al sl safe turned w' := by
  refine (own_append h.own h.lgb h.log h.lok (by omega) hB s).mono ?_
  rintro e w' ⟨rfl, ho, hl, hk⟩
  exact ⟨rfl, (h.next ho hl (wput_L h.lok 82 [s]) (h.gd.wput Bk L 82 [s]) hk).1⟩
theorem Wd.sync {w0 w : World} {b k mb wa lg n : Nat} {P : PS} {Bk al sl : List ByteArray} {L : LG} {av sv : Value} {safe : Int} {turned : Bool} (h : Wd w0 b k mb wa lg P Bk L n av sv al sl safe turned w) (hn : n ≤ 890000000) :
    Calls Tryz.prog 13 #[.pointer (some ⟨lg, 0, none⟩)] w fun e w' => e = .returned (.int .i64 P.syncR.1) ∧ Wd w0 b k mb wa lg P.syncR.2 Bk L n av sv al sl safe turned w' := by
  refine (own_sync h.own h.log (by omega)).mono ?_
  rintro e w' ⟨rfl, ho, hk⟩
  exact ⟨rfl, (h.same ho h.gd.syncR hk).1⟩
theorem Wd.crash {w0 w : World} {b k mb wa lg n : Nat} {P : PS} {Bk al sl : List ByteArray} {L : LG} {av sv : Value} {safe : Int} {turned : Bool} (h : Wd w0 b k mb wa lg P Bk L n av sv al sl safe turned w) (hn : n ≤ 890000000) (fa : Option Addr) (fc : Nat) (l : List Int) (hfa : IntsAt .i64 w fa l) (hfo : ∀ g off, l ≠ [] → fa = some ⟨g, off, none⟩ → g < w0.heap.size) (hll : l.length ≤ 9223372036854775807) :
    Calls Tryz.prog 20 #[.pointer (some ⟨b, 0, none⟩), .slice fa l.length fc] w fun e w' => e = .returned (.tuple #[]) ∧ Wd w0 b k mb wa lg (P.crash l) Bk L n av sv al sl safe turned w' := by
  refine (own_crash h.own (by omega) fa fc l hfa (fun g off h1 h2 => Or.inl (hfo g off h1 h2)) hll).mono ?_
  rintro e w' ⟨rfl, ho, hk⟩
  exact ⟨rfl, (h.same ho (h.gd.crash l) hk).1⟩
theorem Wd.arm {w0 w : World} {b k mb wa lg n : Nat} {P : PS} {Bk al sl : List ByteArray} {L : LG} {av sv : Value} {safe : Int} {turned : Bool} (h : Wd w0 b k mb wa lg P Bk L n av sv al sl safe turned w) (i : Int) (hi : i ≤ 9223372036854775807) :
    Calls Tryz.prog 27 #[.pointer (some ⟨b, 0, none⟩), .int .i64 i] w fun e w' => (∃ r, e = .returned (.int .i64 r)) ∧ Wd w0 b k mb wa lg (P.arm i).2 Bk L n av sv al sl safe turned w' := by
  refine (own_dev (Q := fun e => e = .returned (.int .i64 (P.arm i).1)) h.own (fun S hp hR => by
    subst hp
    exact arm_any b S i w hR.dev) (h.own.ok.arm i hi)).mono ?_
  rintro e w' ⟨rfl, ho, hk⟩
  exact ⟨⟨_, rfl⟩, (h.same ho (h.gd.arm i) hk).1⟩
set_option maxRecDepth 100000 in
set_option maxHeartbeats 4000000 in
theorem step_two {w0 w : World} {b k mb wa j : Nat} (h : Sd w0 b k mb wa j w) (hj : j ≤ 99) (nn : Int) (text : ByteArray) (sa : Option Addr) (ss : List ByteArray) (sc : Nat) (fa : Option Addr) (fn fc : Nat) (hss : StrsAt w0 sa ss) (hsm : ss.length ≤ maxLen) :
    Calls Tryz.prog 25 #[.pointer (some ⟨wa, 0, none⟩), .agg #[.int .i64 2, .int .i64 nn, .string text, .slice sa ss.length sc, .slice fa fn fc]] w fun e w' => ∃ r, e = .returned (.bool r) ∧ Sd w0 b k mb wa (j + 1) w' := by
  obtain ⟨lg, P, Bk, L, n, av, sv, al, sl, safe, turned, h1, h2, h3, h4, h5, hag⟩ := h
  have c0 : ∀ o, (w.alloc o).cell? ⟨wa, 0, none⟩ = some (.pointer (some ⟨b, 0, none⟩)) := fun o => (Blk.alloc h1.wat o).cell 0
  have HUp := Lib.hid (fun W (hb : Below w.heap.size w W) => (h1.below hb).up)
  have HFw := Lib.hid (fun W (hb : Below w.heap.size w W) => few_any sa sc ss W (strsAt_below hss (h1.below hb).own.bel) hsm)
  have HTd := Lib.hid (fun (W : World) (hb : Below w.heap.size w W) (v : Value) (hr : W.ownsRow w0.heap.size 9 1 v (wfew ss).length (strVals (wfew ss))) => (show Calls Tryz.prog 49 #[.pointer (some ⟨wa, 0, none⟩), v] W fun e w' => ∃ r, e = .returned (.bool r) ∧ Sd w0 b k mb wa (j + 1) w' from by
    obtain ⟨x, y, rfl⟩ := row_shape hr
    exact turned_any ⟨lg, P, Bk, L, n, av, sv, al, sl, safe, turned, h1.below hb, h2, h3, h4, h5, hag⟩ (by omega) hr (wfew_len ss)))
  have hb1 := fun o => (Below.refl _ w).alloc (Nat.le_refl _) o
  have hsz := h1.own.sz
  clear h1 hss
  go_enter Tryz.func25, Tryz.ntmps25
  go_wp2_with fail
  refine (HUp.out _ (hb1 _)).mono ?_
  rintro e w1 ⟨rfl, rfl⟩
  go_wp2_with fail
  refine (HFw.out _ (hb1 _)).mono ?_
  rintro e w2 ⟨v, rfl, hr, hb2⟩
  have hb3 := below_step (hb1 _) hb2
  have hr2 := row_base hr (show w0.heap.size ≤ _ from Nat.le_trans hsz (hb1 _).size)
  go_wp2_with fail
  refine (HTd.out _ hb3 _ hr2).mono ?_
  rintro e w4 ⟨r, rfl, h4r⟩
  go_wp2_with fail
  go_ret
  exact ⟨_, rfl, h4r⟩
set_option maxRecDepth 100000 in
set_option maxHeartbeats 4000000 in
theorem step_one {w0 w : World} {b k mb wa j : Nat} (h : Sd w0 b k mb wa j w) (hj : j ≤ 99) (nn : Int) (text : ByteArray) (sa : Option Addr) (sn sc : Nat) (fa : Option Addr) (fn fc : Nat) :
    Calls Tryz.prog 25 #[.pointer (some ⟨wa, 0, none⟩), .agg #[.int .i64 1, .int .i64 nn, .string text, .slice sa sn sc, .slice fa fn fc]] w fun e w' => ∃ r, e = .returned (.bool r) ∧ Sd w0 b k mb wa (j + 1) w' := by
  obtain ⟨lg, P, Bk, L, n, av, sv, al, sl, safe, turned, h1, h2, h3, h4, h5, hag⟩ := h
  obtain ⟨ua, uc, hu⟩ := row_shape h1.arow
  subst hu
  have c0 : ∀ o, (w.alloc o).cell? ⟨wa, 0, none⟩ = some (.pointer (some ⟨b, 0, none⟩)) := fun o => (Blk.alloc h1.wat o).cell 0
  have c2 : ∀ o, (w.alloc o).cell? ⟨wa, 2, none⟩ = some (.pointer (some ⟨lg, 0, none⟩)) := fun o => (Blk.alloc h1.wat o).cell 2
  have HUp := Lib.hid (fun W (hb : Below w.heap.size w W) => (h1.below hb).up)
  have HSy := Lib.hid (fun W (hb : Below w.heap.size w W) => (h1.below hb).sync (by omega))
  have hb1 := fun o => (Below.refl _ w).alloc (Nat.le_refl _) o
  have h2s := syncR_two P
  have HAg := Lib.hid (hag.syncR h1.gd.snd)
  clear hag
  generalize P.syncR.1 = re at HSy h2s
  generalize P.syncR.2 = P2 at HSy HAg
  generalize (!P.off) = U at HUp
  clear h1
  go_enter Tryz.func25, Tryz.ntmps25
  go_wp2_with fail
  refine (HUp.out _ (hb1 _)).mono ?_
  rintro e w1 ⟨rfl, rfl⟩
  go_wp2_with fail
  refine (HSy.out _ (hb1 _)).mono ?_
  rintro e w4 ⟨rfl, h4r⟩
  have H4 := Lib.hid h4r
  clear h4r HSy HUp c0 c2
  have c3 : w4.cell? ⟨wa, 3, none⟩ = some (.slice ua al.length uc) := H4.out.wat.cell 3
  have c4 : w4.cell? ⟨wa, 4, none⟩ = some (.int .i64 safe) := H4.out.wat.cell 4
  have f4 : w4.frozen? ⟨wa, 4, none⟩ = false := H4.out.wat.free 4
  rcases h2s with rfl | rfl
  · have HK := Lib.hid (H4.out.set (Below.refl _ _) H4.out.arow H4.out.srow H4.out.log H4.out.lgb H4.out.lok (safe2 := (al.length : Int)) 4 _ rfl)
    cases U
    all_goals
      go_wp2_with fail
      go_ret
      exact ⟨_, rfl, lg, P2, Bk, L, _, _, _, al, sl, _, _, HK.out, by omega, n_up h3, by omega, h5, HAg.out⟩
  · cases U
    all_goals
      go_wp2_with fail
      go_ret
      exact ⟨_, rfl, lg, P2, Bk, L, _, _, _, al, sl, _, _, H4.out, by omega, n_up h3, by omega, h5, HAg.out⟩
set_option maxRecDepth 100000 in
set_option maxHeartbeats 4000000 in
theorem step_three {w0 w : World} {b k mb wa j : Nat} (h : Sd w0 b k mb wa j w) (hj : j ≤ 99) (nn : Int) (text : ByteArray) (sa : Option Addr) (sn sc : Nat) (fa : Option Addr) (l : List Int) (fc : Nat) (hfa : IntsAt .i64 w0 fa l) (hfo : ∀ g off, l ≠ [] → fa = some ⟨g, off, none⟩ → g < w0.heap.size) (hll : l.length ≤ 9223372036854775807) :
    Calls Tryz.prog 25 #[.pointer (some ⟨wa, 0, none⟩), .agg #[.int .i64 3, .int .i64 nn, .string text, .slice sa sn sc, .slice fa l.length fc]] w fun e w' => ∃ r, e = .returned (.bool r) ∧ Sd w0 b k mb wa (j + 1) w' := by
  obtain ⟨lg, P, Bk, L, n, av, sv, al, sl, safe, turned, h1, h2, h3, h4, h5, hag⟩ := h
  have c0 : ∀ o, (w.alloc o).cell? ⟨wa, 0, none⟩ = some (.pointer (some ⟨b, 0, none⟩)) := fun o => (Blk.alloc h1.wat o).cell 0
  have HUp := Lib.hid (fun W (hb : Below w.heap.size w W) => (h1.below hb).up)
  have HCr := Lib.hid (fun (W : World) (hb : Below w.heap.size w W) => (show Calls Tryz.prog 20 #[.pointer (some ⟨b, 0, none⟩), .slice fa l.length fc] W fun e w' => e = .returned (.tuple #[]) ∧ Hid (SdC w0 b k mb wa j w') from by
    have hw := h1.below hb
    refine (hw.crash (by omega) fa fc l (intsAt_below hfa hw.own.bel) hfo hll).mono ?_
    rintro e w' ⟨rfl, h9⟩
    exact ⟨rfl, Lib.hid ⟨lg, _, Bk, L, n, av, sv, al, sl, safe, turned, h9, h2, h3, h4, h5, hag.crash h1.gd.snd l, Still.crash P l⟩⟩))
  have hb1 := fun o => (Below.refl _ w).alloc (Nat.le_refl _) o
  clear h1 hfa hfo
  go_enter Tryz.func25, Tryz.ntmps25
  go_wp2_with fail
  refine (HUp.out _ (hb1 _)).mono ?_
  rintro e w1 ⟨rfl, rfl⟩
  go_upto_region 19 with (fail)
  go_cut [] (fun wx => Hid (SdC w0 b k mb wa j wx))
  case first =>
    go_region_law (first
      | (go_simp; go_at_call 20; refine (HCr.out _ (hb1 _).drew).mono ?_; rintro e w3 ⟨rfl, h3r⟩))
    all_goals go_wp2_with fail
    all_goals go_meet
    all_goals exact h3r
  case rest =>
    go_wp2_with fail
    refine (reopen_any hcut.out (by omega)).mono ?_
    rintro e w4 ⟨r, rfl, h4r⟩
    go_wp2_with fail
    go_ret
    exact ⟨_, rfl, h4r⟩
set_option maxRecDepth 100000 in
set_option maxHeartbeats 4000000 in
theorem step_else {w0 w : World} {b k mb wa j : Nat} (h : Sd w0 b k mb wa j w) (hj : j ≤ 99) (kind nn : Int) (text : ByteArray) (sa : Option Addr) (sn sc : Nat) (fa : Option Addr) (fn fc : Nat) (hk0 : ¬ kind = 0) (hk1 : ¬ kind = 1) (hk2 : ¬ kind = 2) (hk3 : ¬ kind = 3) (hnn : nn ≤ 9223372036854775807) :
    Calls Tryz.prog 25 #[.pointer (some ⟨wa, 0, none⟩), .agg #[.int .i64 kind, .int .i64 nn, .string text, .slice sa sn sc, .slice fa fn fc]] w fun e w' => ∃ r, e = .returned (.bool r) ∧ Sd w0 b k mb wa (j + 1) w' := by
  obtain ⟨lg, P, Bk, L, n, av, sv, al, sl, safe, turned, h1, h2, h3, h4, h5, hag⟩ := h
  have c0 : ∀ o, (w.alloc o).cell? ⟨wa, 0, none⟩ = some (.pointer (some ⟨b, 0, none⟩)) := fun o => (Blk.alloc h1.wat o).cell 0
  have HUp := Lib.hid (fun W (hb : Below w.heap.size w W) => (h1.below hb).up)
  have HAr := Lib.hid (fun (W : World) (hb : Below w.heap.size w W) => (show Calls Tryz.prog 27 #[.pointer (some ⟨b, 0, none⟩), .int .i64 nn] W fun e w' => (∃ r, e = .returned (.int .i64 r)) ∧ Hid (Sd w0 b k mb wa (j + 1) w') from by
    refine ((h1.below hb).arm nn hnn).mono ?_
    rintro e w' ⟨he, h9⟩
    exact ⟨he, Lib.hid ⟨lg, _, Bk, L, n, av, sv, al, sl, safe, turned, h9, by omega, n_up h3, by omega, h5, hag.arm nn⟩⟩))
  have hb1 := fun o => (Below.refl _ w).alloc (Nat.le_refl _) o
  have e0 : (kind == 0) = false := by simpa using hk0
  have e1 : (kind == 1) = false := by simpa using hk1
  have e2 : (kind == 2) = false := by simpa using hk2
  have e3 : (kind == 3) = false := by simpa using hk3
  clear h1
  go_enter Tryz.func25, Tryz.ntmps25
  go_wp2_with fail
  refine (HUp.out _ (hb1 _)).mono ?_
  rintro e w1 ⟨rfl, rfl⟩
  go_upto_region 3 with (fail)
  go_cut [] (fun wx => Hid (Sd w0 b k mb wa (j + 1) wx))
  case first =>
    go_region_law (first
      | (go_simp; go_at_call 27; refine (HAr.out _ (hb1 _).drew).mono ?_; rintro e w3 ⟨⟨r, rfl⟩, h3r⟩))
    all_goals go_wp2_with fail
    all_goals go_meet
    all_goals exact h3r
  case rest =>
    go_wp2_with fail
    go_ret
    exact ⟨_, rfl, hcut.out⟩
set_option maxRecDepth 100000 in
set_option maxHeartbeats 4000000 in
theorem step_zero {w0 w : World} {b k mb wa j : Nat} (h : Sd w0 b k mb wa j w) (hj : j ≤ 99) (nn : Int) (text : ByteArray) (sa : Option Addr) (sn sc : Nat) (fa : Option Addr) (fn fc : Nat) :
    Calls Tryz.prog 25 #[.pointer (some ⟨wa, 0, none⟩), .agg #[.int .i64 0, .int .i64 nn, .string text, .slice sa sn sc, .slice fa fn fc]] w fun e w' => ∃ r, e = .returned (.bool r) ∧ Sd w0 b k mb wa (j + 1) w' := by
  obtain ⟨lg, P, Bk, L, n, av, sv, al, sl, safe, turned, h1, h2, h3, h4, h5, hag⟩ := h
  obtain ⟨ua, uc, hu⟩ := row_shape h1.arow
  subst hu
  have c0 : ∀ o, (w.alloc o).cell? ⟨wa, 0, none⟩ = some (.pointer (some ⟨b, 0, none⟩)) := fun o => (Blk.alloc h1.wat o).cell 0
  have c2 : ∀ o, (w.alloc o).cell? ⟨wa, 2, none⟩ = some (.pointer (some ⟨lg, 0, none⟩)) := fun o => (Blk.alloc h1.wat o).cell 2
  have HUp := Lib.hid (fun W (hb : Below w.heap.size w W) => (h1.below hb).up)
  have HC := Lib.hid (fun W => wcut_any text W)
  generalize wcut text = c at HC
  have HAp := Lib.hid (fun W (hb : Below w.heap.size w W) => (h1.below hb).append (by omega) (by omega) c)
  have hBl : (wappend P Bk L c).B.length ≤ Bk.length + 1 := wput_B P Bk L 82 [c]
  have HAg := Lib.hid (hag.append h1.gd.snd h1.lok c)
  clear hag
  have hb1 := fun o => (Below.refl _ w).alloc (Nat.le_refl _) o
  generalize (!P.off) = U at HUp
  generalize wappend P Bk L c = R at HAp hBl HAg
  clear h1
  go_enter Tryz.func25, Tryz.ntmps25
  go_wp2_with fail
  refine (HUp.out _ (hb1 _)).mono ?_
  rintro e w1 ⟨rfl, rfl⟩
  go_wp2_with fail
  refine (HC.out _).mono ?_
  rintro e w1 ⟨rfl, rfl⟩
  go_wp2_with fail
  refine (HAp.out _ (hb1 _)).mono ?_
  rintro e w4 ⟨rfl, h4r⟩
  have H4 := Lib.hid h4r
  clear h4r HAp HUp c0 c2 HC
  have c0 : w4.cell? ⟨wa, 0, none⟩ = some (.pointer (some ⟨b, 0, none⟩)) := H4.out.wat.cell 0
  have c3 : ∀ o, (w4.alloc o).cell? ⟨wa, 3, none⟩ = some (.slice ua al.length uc) := fun o => (Blk.alloc H4.out.wat o).cell 3
  have hw5 := fun o => (Below.refl _ w4).alloc (Nat.le_refl _) o
  have HA5 := Lib.hid (ownsRow_below H4.out.arow (hw5 (.cells #[] 9)))
  have hbs := (hw5 (.cells #[] 9)).size
  by_cases he0 : R.e = 0
  · generalize R.e = re at he0 ⊢
    subst he0
    cases U
    all_goals
      go_wp2_with (first
      | (at_builtin; refine wpList_append_rows rfl _ _ rfl w4.heap.size w0.heap.size (.slice (some ⟨w4.heap.size, 0, none⟩) 0 0) (.slice ua al.length uc) 0 al.length al.length [] al rfl rfl (row_nil w4 _ (Nat.le_refl _)) HA5.out (by omega) (by omega) hbs ?_; intro va vc w6 hr6 hb6; have hb46 := (hw5 _).trans hb6)
      | (at_builtin; refine wpList_append_rows rfl _ _ rfl w4.heap.size w6.heap.size (.slice va al.length vc) (.slice (some ⟨w6.heap.size, 0, none⟩) 1 1) al.length 1 (al.length + 1) al [c] rfl rfl (ownsRow_below hr6 ((Below.refl _ w6).alloc (Nat.le_refl _) _)) (World.ownsRow_lit w6 #[.string c] 1 (Nat.le_refl _) (by decide) rfl) rfl (by omega) (Nat.le_trans hb46.size ((Below.refl _ w6).alloc (Nat.le_refl _) (.cells #[.string c] 9)).size) ?_; intro vb vd w7 hr7 hb7; have hb47 := (hb46.trans ((Below.refl w4.heap.size w6).alloc hb46.size (.cells #[.string c] 9))).trans hb7; have f7 : w7.frozen? ⟨wa, 3, none⟩ = false := (Blk.below H4.out.wat hb47).free 3; have e7 : w7.cell? ⟨wa, 3, none⟩ = some (.slice ua al.length uc) := (Blk.below H4.out.wat hb47).cell 3; have c07 : w7.cell? ⟨wa, 0, none⟩ = some (.pointer (some ⟨b, 0, none⟩)) := (Blk.below H4.out.wat hb47).cell 0))
      go_ret
      have HK := Lib.hid (H4.out.set hb47 (av2 := .slice vb (al.length + 1) vd) (al2 := al ++ [c]) (by rw [List.length_append]; exact row_base hr7 H4.out.own.sz) (ownsRow_below H4.out.srow hb47) (Blk.below H4.out.log hb47) H4.out.lgb H4.out.lok 3 _ rfl)
      exact ⟨_, rfl, lg, R.P, R.B, R.L, _, _, _, al ++ [c], sl, _, _, HK.out, by omega, by omega, by rw [List.length_append]; show al.length + 1 ≤ _; omega, h5, HAg.out⟩
  · by_cases he14 : R.e = 14
    · generalize R.e = re at he14 ⊢
      subst he14
      clear he0
      cases U
      · have HU4 := Lib.hid H4.out.up
        generalize (!R.P.off) = U2 at HU4
        clear c3 hw5 HA5 hbs
        cases U2
        all_goals
          go_wp2_with fail
          refine HU4.out.mono ?_
          rintro e w5 ⟨rfl, rfl⟩
          go_wp2_with fail
          go_ret
          exact ⟨_, rfl, lg, R.P, R.B, R.L, _, _, _, al, sl, _, _, H4.out, by omega, by omega, by omega, h5, HAg.out⟩
      · go_wp2_with (first
      | (at_builtin; refine wpList_append_rows rfl _ _ rfl w4.heap.size w0.heap.size (.slice (some ⟨w4.heap.size, 0, none⟩) 0 0) (.slice ua al.length uc) 0 al.length al.length [] al rfl rfl (row_nil w4 _ (Nat.le_refl _)) HA5.out (by omega) (by omega) hbs ?_; intro va vc w6 hr6 hb6; have hb46 := (hw5 _).trans hb6)
      | (at_builtin; refine wpList_append_rows rfl _ _ rfl w4.heap.size w6.heap.size (.slice va al.length vc) (.slice (some ⟨w6.heap.size, 0, none⟩) 1 1) al.length 1 (al.length + 1) al [c] rfl rfl (ownsRow_below hr6 ((Below.refl _ w6).alloc (Nat.le_refl _) _)) (World.ownsRow_lit w6 #[.string c] 1 (Nat.le_refl _) (by decide) rfl) rfl (by omega) (Nat.le_trans hb46.size ((Below.refl _ w6).alloc (Nat.le_refl _) (.cells #[.string c] 9)).size) ?_; intro vb vd w7 hr7 hb7; have hb47 := (hb46.trans ((Below.refl w4.heap.size w6).alloc hb46.size (.cells #[.string c] 9))).trans hb7; have f7 : w7.frozen? ⟨wa, 3, none⟩ = false := (Blk.below H4.out.wat hb47).free 3; have e7 : w7.cell? ⟨wa, 3, none⟩ = some (.slice ua al.length uc) := (Blk.below H4.out.wat hb47).cell 3; have c07 : w7.cell? ⟨wa, 0, none⟩ = some (.pointer (some ⟨b, 0, none⟩)) := (Blk.below H4.out.wat hb47).cell 0))
        have HK := Lib.hid (H4.out.set hb47 (av2 := .slice vb (al.length + 1) vd) (al2 := al ++ [c]) (by rw [List.length_append]; exact row_base hr7 H4.out.own.sz) (ownsRow_below H4.out.srow hb47) (Blk.below H4.out.log hb47) H4.out.lgb H4.out.lok 3 _ rfl)
        have HU4 := Lib.hid HK.out.up
        generalize (!R.P.off) = U2 at HU4
        cases U2
        all_goals
          refine HU4.out.mono ?_
          rintro e w8 ⟨rfl, rfl⟩
          go_wp2_with fail
          go_ret
          exact ⟨_, rfl, lg, R.P, R.B, R.L, _, _, _, al ++ [c], sl, _, _, HK.out, by omega, by omega, by rw [List.length_append]; show al.length + 1 ≤ _; omega, h5, HAg.out⟩
    · have hb0 : (R.e == 0) = false := by simpa using he0
      have hb14 : (R.e == 14) = false := by simpa using he14
      clear c3 hw5 HA5 hbs
      generalize R.e = re at he0 he14 hb0 hb14 ⊢
      by_cases he7 : re = 7
      · subst he7
        cases U
        all_goals
          go_wp2_with fail
          go_ret
          exact ⟨_, rfl, lg, R.P, R.B, R.L, _, _, _, al, sl, _, _, H4.out, by omega, by omega, by omega, h5, HAg.out⟩
      · have hb7 : (re == 7) = false := by simpa using he7
        cases U
        all_goals
          go_wp2_with fail
          go_ret
          exact ⟨_, rfl, lg, R.P, R.B, R.L, _, _, _, al, sl, _, _, H4.out, by omega, by omega, by omega, h5, HAg.out⟩
end Go.Proofs.YtkllnihhhgaojaaGreatDoor
