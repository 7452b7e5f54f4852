/- The walk of the statement's (*world).step, whatever was done before. Conditions: sizes. -/
import Derived.Test.YtkllnihhhgaojaaGreatDoorWalRows
import Derived.Test.YtkllnihhhgaojaaGreatDoorWalLaw
import Derived.BigQuiet
namespace Go.Proofs.YtkllnihhhgaojaaGreatDoor
open Go Go.RowKit
set_option linter.unusedVariables false

def nmL (P : PS) : List ByteArray := P.files.map PF.name
structure Gd (P : PS) : Prop where
  snd : Snd P
  most : P.most = 300
  nms : ∀ s ∈ nmL P, ∃ n, n < 100000000 ∧ s = wname n
theorem nm_wrGo : ∀ (m : Nat) (P : PS) (i a : Nat) (t : ByteArray), nmL (wrGo m P i a t).2 = nmL P ∧ (wrGo m P i a t).2.most = P.most
  | 0, P, i, a, t => ⟨rfl, rfl⟩
  | m + 1, P, i, a, t => by
    unfold wrGo
    split
    · exact ⟨rfl, rfl⟩
    · split
      · exact ⟨rfl, rfl⟩
      · obtain ⟨h1, h2⟩ := nm_wrGo m (wrStep P i a (t.extract 0 (room a t))) i (a + room a t) (t.extract (room a t) t.size)
        refine ⟨h1.trans ?_, h2⟩
        show (P.files.modify i _).map PF.name = P.files.map PF.name
        apply List.ext_getElem
        · simp
        · intro j h1 h2
          rw [List.getElem_map, List.getElem_map, List.getElem_modify]
          split <;> rfl
theorem nm_write (P : PS) (s : ByteArray) (a : Int) (t : ByteArray) : nmL (P.write s a t).2 = nmL P ∧ (P.write s a t).2.most = P.most := by
  unfold PS.write
  split
  · exact ⟨rfl, rfl⟩
  · split
    · exact ⟨rfl, rfl⟩
    · split
      · exact ⟨rfl, rfl⟩
      · split
        · exact ⟨rfl, rfl⟩
        · exact nm_wrGo _ _ _ _ _
theorem nm_lastF (p : DPiece) (n : Nat) (fs : List PF) : (fs.map (lastF p n)).map PF.name = fs.map PF.name := by
  rw [List.map_map]
  apply List.map_congr_left
  intro f hf
  show (lastF p n f).name = f.name
  unfold lastF
  split <;> rfl
theorem nm_syncF : ∀ (l : List DPiece) (fs : List PF), (syncF l fs).map PF.name = fs.map PF.name
  | [], fs => rfl
  | p :: l, fs => (nm_syncF l (fs.map (lastF p p.text.size))).trans (nm_lastF p _ fs)
theorem nm_crashF : ∀ (l : List (DPiece × Int)) (fs : List PF), (crashF l fs).map PF.name = fs.map PF.name
  | [], fs => rfl
  | q :: l, fs => (nm_crashF l (fs.map (lastF q.1 (fateN q.1 q.2)))).trans (nm_lastF q.1 _ fs)
theorem Gd.write {P : PS} (h : Gd P) (s : ByteArray) (a : Int) (t : ByteArray) : Gd (P.write s a t).2 := by
  obtain ⟨h1, h2⟩ := nm_write P s a t
  exact ⟨h.snd.write s a t, h2.trans h.most, by rw [h1]; exact h.nms⟩
theorem Gd.syncR {P : PS} (h : Gd P) : Gd P.syncR.2 := by
  refine ⟨h.snd.syncR, ?_, ?_⟩
  · unfold PS.syncR
    split <;> exact h.most
  · unfold PS.syncR
    split
    · exact h.nms
    · have e : nmL P.sync = nmL P := nm_syncF _ _
      show ∀ s ∈ nmL P.sync, _
      rw [e]
      exact h.nms
theorem Gd.crash {P : PS} (h : Gd P) (l : List Int) : Gd (P.crash l) := by
  refine ⟨h.snd.crash l, h.most, ?_⟩
  have e : nmL (P.crash l) = nmL P := by
    show ((crashF (P.wait.zip l) P.files).map seenF).map PF.name = _
    rw [List.map_map]
    exact (nm_crashF _ _)
  rw [e]
  exact h.nms
theorem Gd.arm {P : PS} (h : Gd P) (n : Int) : Gd (P.arm n).2 := by
  refine ⟨h.snd.arm n, ?_, ?_⟩
  · unfold PS.arm
    split
    · exact h.most
    · split <;> exact h.most
  · unfold PS.arm
    split
    · exact h.nms
    · split <;> exact h.nms
theorem Gd.remove {P : PS} (h : Gd P) (s : ByteArray) : Gd (P.remove s).2 := by
  refine ⟨h.snd.remove s, ?_, ?_⟩
  · unfold PS.remove
    split
    · exact h.most
    · split <;> exact h.most
  · unfold PS.remove
    split
    · exact h.nms
    · split
      · exact h.nms
      · intro s2 hs
        have hs2 : s2 ∈ (P.files.eraseIdx _).map PF.name := hs
        obtain ⟨f, hf, rfl⟩ := List.mem_map.1 hs2
        exact h.nms _ (List.mem_map.2 ⟨f, (List.eraseIdx_sublist _ _).subset hf, rfl⟩)
theorem Gd.create {P : PS} (h : Gd P) {n : Nat} (hn : n < 100000000) : Gd (P.create (wname n)).2 := by
  refine ⟨h.snd.create _, ?_, ?_⟩
  · unfold PS.create
    split
    · exact h.most
    · split
      · exact h.most
      · split <;> exact h.most
  · unfold PS.create
    split
    · exact h.nms
    · split
      · exact h.nms
      · split
        · exact h.nms
        · intro s2 hs
          have hs2 : s2 ∈ (P.files.take (lowerP P.files (wname n)) ++ (⟨P.made, wname n, [], []⟩ : PF) :: P.files.drop (lowerP P.files (wname n))).map PF.name := hs
          obtain ⟨f, hf, rfl⟩ := List.mem_map.1 hs2
          rcases List.mem_append.1 hf with h1 | h1
          · exact h.nms _ (List.mem_map.2 ⟨f, List.mem_of_mem_take h1, rfl⟩)
          · rcases List.mem_cons.1 h1 with rfl | h1
            · exact ⟨n, hn, rfl⟩
            · exact h.nms _ (List.mem_map.2 ⟨f, List.mem_of_mem_drop h1, rfl⟩)
theorem Gd.wput {P : PS} (h : Gd P) (B : List ByteArray) (L : LG) (c : UInt8) (texts : List ByteArray) : Gd (wput P B L c texts).P := by
  rcases hp : putAcc c texts B L.m [] with ⟨B', _ | ⟨t, m'⟩⟩
  · rw [wput_long hp]; exact h
  · by_cases hz : (P.write (wname L.n) L.e (textOf t)).1 = 0
    · rw [wput_ok hp hz]; exact h.write _ _ _
    · rw [wput_no hp hz]; exact h.write _ _ _
theorem Gd.begin {P : PS} (h : Gd P) (B : List ByteArray) {m : Nat} (hm : m < 100000000) (snap : List ByteArray) : Gd (wbegin P B m snap).P := by
  have h0 := h.create hm
  unfold wbegin
  split
  · exact h0
  · have h1 := h0.wput B ⟨m, 0, firstM m⟩ 83 snap
    generalize Go.Proofs.YtkllnihhhgaojaaGreatDoor.wput (P.create (wname m)).2 B ⟨m, 0, firstM m⟩ 83 snap = a at h1
    have h2 : Gd (wseal a).P := by
      unfold wseal
      split
      · exact h1.wput _ _ _ _
      · exact h1
    generalize wseal a = c at h2
    have h3 : Gd (wsync c).P := by
      unfold wsync
      split
      · exact h2.syncR
      · exact h2
    generalize wsync c = d at h3
    unfold wdrop
    split
    · exact h3.remove _
    · exact h3
theorem Gd.turn {P : PS} (h : Gd P) (B : List ByteArray) {L : LG} (hL : L.Ok) (snap : List ByteArray) : Gd (wturn P B L snap).P := by
  have hn := hL.n
  unfold wturn
  split
  · exact h
  · rename_i h9
    have hb := h.begin B (m := L.n + 1) (by omega) snap
    split
    · exact hb
    · exact hb.remove _
theorem Gd.wipe {P : PS} (h : Gd P) (L : LG) : Gd (wwipe P L).2 := by
  unfold wwipe
  split
  · exact h
  · split
    · exact h
    · split
      · exact h
      · split
        · exact h.write _ _ _
        · exact (h.write _ _ _).syncR
theorem Gd.removeBut (ns : List Nat) (n : Nat) : ∀ {P : PS}, Gd P → Gd (removeBut ns n P) := by
  induction ns with
  | nil => exact fun h => h
  | cons m ns ih => exact fun h => ih (by
      show Gd (if m ≠ n then _ else _)
      split
      · exact h.remove (wname m)
      · exact h)
theorem Gd.open {P : PS} (h : Gd P) (B : List ByteArray) : Gd (wopen P B).P := by
  unfold wopen
  split
  · exact h
  · generalize segsP P = all
    have key : ∀ r, Gd (openGo all P B r).P := by
      intro r
      induction r with
      | nil => exact h
      | cons m r ih =>
        cases hl : loadP P B m with
        | none => rw [openGo_none hl]; exact ih
        | some o =>
          cases hs : o.sealed with
          | false => rw [openGo_open hl hs]; exact ih
          | true =>
            rw [openGo_take hl hs]
            have hw := Gd.wipe (Gd.removeBut all m h) ⟨m, o.e, o.m⟩
            unfold wtake
            split
            · exact hw
            · exact hw
    exact key all
end Go.Proofs.YtkllnihhhgaojaaGreatDoor
namespace Go.Proofs.YtkllnihhhgaojaaGreatDoor
open Go Go.RowKit
set_option linter.unusedVariables false

theorem arm_any (b : Nat) (S : DSt) (k : Int) (w : World) (h : DiskAt w b S) :
    Calls Tryz.prog 27 #[.pointer (some ⟨b, 0, none⟩), .int .i64 k] w fun e w' => e = .returned (.int .i64 (S.pl.arm k).1) ∧ ∃ S', Dev b S w S' w' ∧ S'.pl = (S.pl.arm k).2 := by
  cases ho : S.off with
  | true =>
    have e0 : S.pl.arm k = (14, S.pl) := if_pos ho
    rw [e0]
    refine (arm_off b S k w h ho).mono ?_
    rintro e w' ⟨rfl, rfl⟩
    exact ⟨rfl, S, Dev.refl h, rfl⟩
  | false =>
    have hno : ¬ (S.pl.off = true) := by show ¬ (S.off = true); rw [ho]; decide
    by_cases hk0 : k < 0
    · have e0 : S.pl.arm k = (1, S.pl) := by unfold PS.arm; rw [if_neg hno, if_pos hk0]
      rw [e0]
      refine (arm_low b S k w h ho hk0).mono ?_
      rintro e w' ⟨rfl, rfl⟩
      exact ⟨rfl, S, Dev.refl h, rfl⟩
    · have e0 : S.pl.arm k = (0, { S.pl with fuse := k }) := by unfold PS.arm; rw [if_neg hno, if_neg hk0]
      rw [e0]
      refine (arm_ok b S k w h ho (by omega)).mono ?_
      rintro e w' ⟨rfl, hD⟩
      exact ⟨rfl, _, hD, rfl⟩
theorem wfew_len (l : List ByteArray) : (wfew l).length ≤ 8 := by unfold wfew; rw [List.length_take]; omega
/-- a row of texts in a slot -/
def RowIs (x : Option Addr) (y : Nat) (l : List ByteArray) (w : World) : Prop := ∃ base, w.ownsRow base 9 1 (.slice x l.length y) l.length (strVals l)
theorem RowIs.keep {x : Option Addr} {y : Nat} {l : List ByteArray} {w w' : World} (h : RowIs x y l w) (hk : RK w w') : RowIs x y l w' := by
  obtain ⟨base, hr⟩ := h
  exact ⟨base, hk _ _ _ _ hr⟩
theorem RowIs.below {x : Option Addr} {y : Nat} {l : List ByteArray} {w w' : World} (h : RowIs x y l w) (hb : Below w.heap.size w w') : RowIs x y l w' := h.keep (RK.below hb)
theorem RowIs.strs {x : Option Addr} {y : Nat} {l : List ByteArray} {w : World} (h : RowIs x y l w) : StrsAt w x l := by
  obtain ⟨base, hr⟩ := h
  obtain ⟨ad, cap, e, hs⟩ := readsStrs_own (ss := l) hr
  injection e with e _ _
  subst e
  exact hs
theorem loadGo_out {B : List ByteArray} : ∀ (f : Nat) (o : LO) (l : List UInt8), o.out.length ≤ o.e → (loadGo B f o l).out.length ≤ (loadGo B f o l).e
  | 0, o, l, h => h
  | f + 1, o, l, h => by
    cases hn : nextP B o.m l with
    | none => rw [loadGo_end hn]; exact h
    | some sm =>
      obtain ⟨s, m⟩ := sm
      cases hs : lstep o.sealed s with
      | none => rw [loadGo_stop hn hs]; exact h
      | some st =>
        obtain ⟨sd, t⟩ := st
        have ht : t.length ≤ 1 := by
          unfold lstep at hs
          split at hs
          · injection hs with hs; injection hs with _ hs; rw [← hs]; exact Nat.zero_le _
          · split at hs
            · injection hs with hs; injection hs with _ hs; rw [← hs]; exact Nat.le_refl _
            · cases hs
        rw [loadGo_step hn hs]
        exact loadGo_out f _ _ (by show (o.out ++ t).length ≤ o.e + (36 + s.size); rw [List.length_append]; omega)
theorem wopen_out {q : Nat} {P : PS} (hok : OkP q P) (B : List ByteArray) : (wopen P B).out.length ≤ 2097152 ∧ (wopen P B).L.Ok := by
  have z : LG.Ok ⟨0, 0, ⟨#[]⟩⟩ := ⟨by decide, by decide, by decide⟩
  unfold wopen
  split
  · exact ⟨Nat.zero_le _, z⟩
  · have hlt := segsL_lt (names := P.files.map PF.name)
    have key : ∀ r, (∀ n ∈ r, n < 100000000) → (openGo (segsP P) P B r).out.length ≤ 2097152 ∧ (openGo (segsP P) P B r).L.Ok := by
      intro r
      induction r with
      | nil => exact fun _ => ⟨Nat.zero_le _, z⟩
      | cons m r ih =>
        intro hr
        have ih' := ih (fun n hn => hr n (List.mem_cons.2 (Or.inr hn)))
        cases hl : loadP P B m with
        | none => rw [openGo_none hl]; exact ih'
        | some o =>
          cases hs : o.sealed with
          | false => rw [openGo_open hl hs]; exact ih'
          | true =>
            rw [openGo_take hl hs]
            have hL := loadP_ok hok (hr m (List.mem_cons.2 (Or.inl rfl))) hl
            have ho : o.out.length ≤ o.e := by
              unfold loadP at hl
              split at hl
              · cases hl
              · split at hl
                · cases hl
                · injection hl with hl
                  rw [← hl]
                  exact loadGo_out _ _ _ (Nat.le_refl _)
            have he := hL.e
            unfold wtake
            split
            · exact ⟨Nat.zero_le _, hL⟩
            · exact ⟨Nat.le_trans ho he, hL⟩
    exact key _ hlt
/-- a row put behind a row of the call's own -/
theorem append_rows_run {w : World} (ty : TypeId) (base base2 : Nat) (v v2 : Value) (n m N : Nat) (xs ys : List ByteArray) (hown : w.ownsRow base 9 1 v n (strVals xs)) (hown2 : w.ownsRow base2 9 1 v2 m (strVals ys)) (hN : n + m = N) (h1 : N ≤ 1000000000) (hbase : base ≤ w.heap.size) :
    ∃ va cap w', (Builtin.append_ #[22, 22] ty #[v, v2]).run Tryz.prog w = .ok (.slice va N cap) w' ∧ w'.ownsRow base 9 1 (.slice va N cap) N (strVals (xs ++ ys)) ∧ Below base w w' := by
  obtain ⟨i0, hi0, hz0, hz1, hz2⟩ := info_parts info_strD
  have key : ∃ v' w', (Builtin.append_ #[22, 22] ty #[v, v2]).run Tryz.prog w = .ok v' w' ∧ w'.ownsRow base 9 1 v' N (strVals (xs ++ ys)) ∧ Below base w w' := by
    have hxy : strVals (xs ++ ys) = strVals xs ++ strVals ys := by unfold strVals; rw [List.map_append]
    have hlen2 : (strVals ys).length = m := by have := hown2.1; omega
    have hbel : ∀ w', w.grownBy w' v.ownBlock → Below base w w' := fun w' hg => ⟨hg.os, hg.tape, hg.output, hg.size, fun j hj => hg.block j (by omega) (fun e => by
      have := (hown.lt j e.symm).1
      omega)⟩
    rcases hown2.2 with ⟨rfl, rfl⟩ | ⟨g, cap, cur, rfl, hg, hb, hnc, hcm, hsz, htk⟩
    · have hnil : strVals ys = [] := List.length_eq_zero_iff.1 hlen2
      refine ⟨v, w, run_append_owned_none (P := Tryz.prog) w base 22 ty 9 i0 1 Tryz.underlying22 hi0 v n (strVals xs) hown, ?_, Below.refl _ _⟩
      rw [hxy, hnil, List.append_nil, ← hN]
      exact hown
    · have hcells := hown2
      obtain ⟨v', w', hr, h2, h3, _, h5⟩ := run_append_own_at (P := Tryz.prog) w base 22 ty 9 i0 (.string ByteArray.empty) 1 16 Tryz.underlying22 hi0 hz0 hz1 hz2 rfl (by decide) v n (strVals xs) hown ⟨g, 0, none⟩ m cap (strVals ys) (by omega) (fun j u hu => by
        have hj : j < m := by
          rw [← hlen2]
          exact (List.getElem?_eq_some_iff.1 hu).1
        rw [addr_add, hcells.cellAt j (by omega)]
        exact hu) (fun u hu => by
        unfold strVals at hu
        obtain ⟨t, _, rfl⟩ := List.mem_map.1 hu
        rfl) (by unfold maxLen; omega) (by omega) hbase
      refine ⟨v', w', hr, ?_, hbel w' h3⟩
      rw [hxy, ← hN]
      exact h2
  obtain ⟨v', w', hr, h2, h3⟩ := key
  obtain ⟨va, vc, rfl⟩ := row_shape h2
  exact ⟨va, vc, w', hr, h2, h3⟩
theorem wpList_append_rows {w : World} {ops : Array Oper} {rest : List Oper} {o : Oper} {a : Act} {Q : Exit → Act → World → Prop} (hgd : o.guard = none) (s x : Operand)
    (ho : o.op = .call { callee := .builtin .append, args := #[s, x], argTypes := #[22, 22] })
    (base base2 : Nat) (v v2 : Value) (n m N : Nat) (xs ys : List ByteArray) (hs : a.eval s = v) (hx : a.eval x = v2) (hown : w.ownsRow base 9 1 v n (strVals xs)) (hown2 : w.ownsRow base2 9 1 v2 m (strVals ys)) (hN : n + m = N) (h1 : N ≤ 1000000000) (hbase : base ≤ w.heap.size)
    (h : ∀ va cap w', w'.ownsRow base 9 1 (.slice va N cap) N (strVals (xs ++ ys)) → Below base w w' → wpList Tryz.prog ops Q rest (a.put o.dst (.slice va N cap)) w') : wpList Tryz.prog ops Q (o :: rest) a w :=
  wpList_plain hgd fun _ hK => by
    obtain ⟨va, vc, w', hr, h2, h3⟩ := append_rows_run o.type base base2 v v2 n m N xs ys hown hown2 hN h1 hbase
    unfold Oper.wp execOp
    simp only [ho, resolve, invoke, builtin, Sem.run_bind, Sem.run_pure, Result.andThen_ok, List.map_toArray, List.map_cons, List.map_nil, hs, hx, hr]
    exact hK _ _ (h va vc w' h2 h3)
/-- the statement's world, whatever was done to it -/
structure Wd (w0 : World) (b k mb wa lg : Nat) (P : PS) (Bk : List ByteArray) (L : LG) (n : Nat) (av sv : Value) (al sl : List ByteArray) (safe : Int) (turned : Bool) (w : World) : Prop where
  own : Own w0.heap.size w0 b k mb P Bk n w
  log : LogAt w lg b k L
  lok : L.Ok
  wat : WAt w wa b k lg av safe turned sv
  lgb : w0.heap.size ≤ lg
  wab : w0.heap.size ≤ wa
  arow : w.ownsRow w0.heap.size 9 1 av al.length (strVals al)
  srow : w.ownsRow w0.heap.size 9 1 sv sl.length (strVals sl)
  gd : Gd P
theorem Wd.ne {w0 w : World} {b k mb wa lg n : Nat} {P : PS} {Bk al sl : List ByteArray} {L : LG} {av sv : Value} {safe : Int} {turned : Bool} (h : Wd w0 b k mb wa lg P Bk L n av sv al sl safe turned w) : lg ≠ wa := Blk.ne h.log h.wat (by decide)
theorem Wd.rk {w0 w w' : World} {b k mb wa lg n : Nat} {P : PS} {Bk al sl : List ByteArray} {L : LG} {av sv : Value} {safe : Int} {turned : Bool} (h : Wd w0 b k mb wa lg P Bk L n av sv al sl safe turned w) (hk : Kept b k mb Bk (fun j => j = lg) w w') : RK w w' :=
  fun base v n xs hr => hk.row hr (by unfold FarT; decide) (fun g hg e => row_ne hr h.log (by decide) (by rw [hg, e]))
theorem Wd.next {w0 w w' : World} {b k mb wa lg n m : Nat} {P P' : PS} {Bk Bk' al sl : List ByteArray} {L L' : LG} {av sv : Value} {safe : Int} {turned : Bool} (h : Wd w0 b k mb wa lg P Bk L n av sv al sl safe turned w) (ho : Own w0.heap.size w0 b k mb P' Bk' m w') (hl : LogAt w' lg b k L') (hL : L'.Ok) (hg : Gd P') (hk : Kept b k mb Bk (fun j => j = lg) w w') : Wd w0 b k mb wa lg P' Bk' L' m av sv al sl safe turned w' ∧ RK w w' :=
  ⟨⟨ho, hl, hL, hk.blk h.wat (by unfold FarT; decide) (fun e => h.ne e.symm), h.lgb, h.wab, h.rk hk _ _ _ _ h.arow, h.rk hk _ _ _ _ h.srow, hg⟩, h.rk hk⟩
theorem Wd.same {w0 w w' : World} {b k mb wa lg n m : Nat} {P P' : PS} {Bk Bk' al sl : List ByteArray} {L : LG} {av sv : Value} {safe : Int} {turned : Bool} (h : Wd w0 b k mb wa lg P Bk L n av sv al sl safe turned w) (ho : Own w0.heap.size w0 b k mb P' Bk' m w') (hg : Gd P') (hk : Kept b k mb Bk (fun _ => False) w w') : Wd w0 b k mb wa lg P' Bk' L m av sv al sl safe turned w' ∧ RK w w' :=
  h.next ho (hk.blk h.log (by unfold FarT; decide) (fun h => h)) h.lok hg hk.none
theorem Wd.below {w0 w w' : World} {b k mb wa lg n : Nat} {P : PS} {Bk al sl : List ByteArray} {L : LG} {av sv : Value} {safe : Int} {turned : Bool} (h : Wd w0 b k mb wa lg P Bk L n av sv al sl safe turned w) (hb : Below w.heap.size w w') : Wd w0 b k mb wa lg P Bk L n av sv al sl safe turned w' :=
  ⟨h.own.below hb, Blk.below h.log hb, h.lok, Blk.below h.wat hb, h.lgb, h.wab, ownsRow_below h.arow hb, ownsRow_below h.srow hb, h.gd⟩
/-- beside the device, the book, the log and the rows one may write into the world's own block -/
theorem Wd.set {w0 w w1 : World} {b k mb wa lg lg2 n : Nat} {P : PS} {Bk al sl al2 sl2 : List ByteArray} {L L2 : LG} {av sv av2 sv2 : Value} {safe safe2 : Int} {turned turned2 : Bool} (h : Wd w0 b k mb wa lg P Bk L n av sv al sl safe turned w) (hb : Below w.heap.size w w1) (ha : w1.ownsRow w0.heap.size 9 1 av2 al2.length (strVals al2)) (hs : w1.ownsRow w0.heap.size 9 1 sv2 sl2.length (strVals sl2))
    (hl : LogAt w1 lg2 b k L2) (hl2 : w0.heap.size ≤ lg2) (hL2 : L2.Ok) (i : Nat) (x : Value) (he : (wldVals b k lg av safe turned sv).set i x = wldVals b k lg2 av2 safe2 turned2 sv2) : Wd w0 b k mb wa lg2 P Bk L2 n av2 sv2 al2 sl2 safe2 turned2 (w1.setCell ⟨wa, i, none⟩ x) := by
  have h1 := h.below hb
  obtain ⟨S, hp, hR, hf⟩ := h1.own.dev
  have ht : Touch (fun j => j = wa) w1 (w1.setCell ⟨wa, i, none⟩ x) := touch1_set (Touch.refl _ w1) x
  refine ⟨h1.own.also ht ?_ ?_ ?_ ?_, Blk.touch hl ht (Blk.ne hl h1.wat (by decide)), hL2, ?_, hl2, h.wab, row_touch ha ht ?_, row_touch hs ht ?_, h.gd⟩
  · rintro j rfl; exact h.wab
  · rintro S2 hR2 j hfj rfl; exact foot_not hR2.dev h1.wat (by decide) hfj
  · exact fun e => (Blk.ne h1.wat hR.book.at_ (by decide)) e.symm
  · exact fun e => hR.book.mb_ne h1.wat e.symm
  · have := Blk.set h1.wat i x
    rw [he] at this
    exact this
  · intro g hg e
    exact row_ne ha h1.wat (by decide) (by rw [hg, e])
  · intro g hg e
    exact row_ne hs h1.wat (by decide) (by rw [hg, e])
end Go.Proofs.YtkllnihhhgaojaaGreatDoor
namespace Go.Proofs.YtkllnihhhgaojaaGreatDoor
open Go Go.RowKit
set_option linter.unusedVariables false

theorem below_q {w wr : World} (h : ∃ q, wr = w.drewN q) : Below w.heap.size w wr := by
  obtain ⟨q, rfl⟩ := h
  exact below_drewN (Below.refl _ _) q
theorem more_q {w wr : World} (h : ∃ q, wr = w.drewN q) (n : Nat) : ∃ q, wr.drewN n = w.drewN q := by
  obtain ⟨q, rfl⟩ := h
  exact ⟨q + n, by simp [World.drewN, Nat.add_assoc]⟩
set_option maxRecDepth 100000 in
set_option maxHeartbeats 1000000 in
theorem begins_q (ad : Option Addr) (cap : Nat) (a : List ByteArray) (bd : Option Addr) (bcap : Nat) (b : List ByteArray) (least : Int) (w : World) (ha : StrsAt w ad a) (hb : StrsAt w bd b) (hal : a.length ≤ 1000000000) :
    Calls Tryz.prog 17 #[.slice ad a.length cap, .slice bd b.length bcap, .int .i64 least] w fun e w' => e = .returned (.bool (beginsB a b least)) ∧ ∃ q, w' = w.drewN q := by
  by_cases h1 : a.length ≤ b.length ∧ least ≤ a.length
  · have hi1 : ¬ ((b.length : Int) < (a.length : Int)) := by omega
    have hi2 : ¬ ((a.length : Int) < least) := by omega
    have hB : beginsB a b least = decide (a <+: b) := by
      unfold beginsB
      rw [decide_eq_decide]
      exact ⟨fun h => h.2.2, fun h => ⟨h1.1, h1.2, h⟩⟩
    have hpt := prefix_take h1.1
    generalize beginsB a b least = R at hB
    have HR := Lib.hid (show R = true ↔ ∀ k (hk : k < a.length), a[k] = b[k]'(by omega) from by rw [hB, decide_eq_true_eq]; exact hpt)
    have HA := Lib.hid ha
    have HB := Lib.hid hb
    clear hB hpt ha hb
    go_enter Tryz.func17, Tryz.ntmps17
    go_wp2_with fail
    go_loopw [7] (fun i wr => ∃ k : Nat, k ≤ a.length ∧ i = .int .i64 k ∧ Hid (∀ j (hj : j < k) (hja : j < a.length), a[j] = b[j]'(by omega)) ∧ Hid (∃ q, wr = w.drewN q)) (fun i _ => a.length - (intOf i).toNat)
    case atStart => exact ⟨0, Nat.zero_le _, rfl, Lib.hid (fun j hj => by omega), Lib.hid ⟨0, rfl⟩⟩
    case round =>
      obtain ⟨k, hk, rfl, HE, HW⟩ := hrel
      by_cases hlt : k < a.length
      · have hki : (k : Int) < (a.length : Int) := by omega
        have hkb : (k : Int) < (b.length : Int) := by omega
        rcases strsAt_below HA.out (below_q HW.out) with h0 | ⟨g, off, rfl, hgl, hc⟩
        · rw [h0] at hlt; simp at hlt
        · rcases strsAt_below HB.out (below_q HW.out) with h0 | ⟨g2, off2, rfl, hgl2, hc2⟩
          · rw [h0] at h1; simp at h1; rw [h1.1] at hlt; simp at hlt
          · have cs := hc k hlt
            have cs2 := hc2 k (by omega)
            have HEQ : Hid (a[k] = b[k]'(by omega) → ∀ j (hj : j < k + 1) (hja : j < a.length), a[j] = b[j]'(by omega)) := Lib.hid (fun he j hj hja => by
              by_cases e : j = k
              · subst e; exact he
              · exact HE.out j (by omega) hja)
            have HNE : Hid (a[k] ≠ b[k]'(by omega) → R = false) := Lib.hid (fun he => by
              rw [Bool.eq_false_iff]
              exact fun h => he ((HR.out.1 h) k hlt))
            generalize a[k] = s at cs HEQ HNE
            generalize b[k]'(by omega) = t at cs2 HEQ HNE
            clear hc hc2 HE
            have hse := strEq_any s t
            by_cases hst : s = t
            · have hb2 : (s.toList == t.toList) = true := by rw [hse]; exact decide_eq_true hst
              have HE2 := Lib.hid (HEQ.out hst)
              clear HEQ HNE hse hst
              go_wp2_with fail
              go_quiet (fail)
              have HW2 := Lib.hid (more_q HW.out nq)
              go_wp2_with fail
              go_roundw
              case rel => exact ⟨k + 1, by omega, by go_num, HE2, HW2⟩
              case measure => simp [intOf]; omega
            · have hb2 : (s.toList == t.toList) = false := by rw [hse]; exact decide_eq_false hst
              have HF := Lib.hid (HNE.out hst)
              clear HEQ HNE hse hst
              go_wp2_with fail
              go_quiet (fail)
              have HW2 := Lib.hid (more_q HW.out nq)
              go_wp2_with fail
              go_ret
              exact ⟨by rw [HF.out]; rfl, HW2.out⟩
      · have hki : ¬ ((k : Int) < (a.length : Int)) := by omega
        have HT : Hid (R = true) := Lib.hid (HR.out.2 (fun j hj => HE.out j (by omega) hj))
        go_wp2_with fail
        go_ret
        exact ⟨by rw [HT.out]; rfl, HW.out⟩
  · have hB : beginsB a b least = false := by
      unfold beginsB
      rw [decide_eq_false_iff_not]
      exact fun h => h1 ⟨h.1, h.2.1⟩
    rw [hB]
    clear hB ha hb
    by_cases h2 : b.length < a.length
    · have hi : (b.length : Int) < (a.length : Int) := by omega
      go_enter Tryz.func17, Tryz.ntmps17
      go_wp2_with fail
      go_ret
      exact ⟨rfl, 0, rfl⟩
    · have hi : ¬ ((b.length : Int) < (a.length : Int)) := by omega
      have hi2 : (a.length : Int) < least := by omega
      go_enter Tryz.func17, Tryz.ntmps17
      go_wp2_with fail
      go_ret
      exact ⟨rfl, 0, rfl⟩
set_option maxRecDepth 100000 in
set_option maxHeartbeats 1000000 in
theorem same_q (ad : Option Addr) (cap : Nat) (a : List ByteArray) (bd : Option Addr) (bcap : Nat) (b : List ByteArray) (w : World) (ha : StrsAt w ad a) (hb : StrsAt w bd b) (hal : a.length ≤ 1000000000) :
    Calls Tryz.prog 22 #[.slice ad a.length cap, .slice bd b.length bcap] w fun e w' => e = .returned (.bool (sameB a b)) ∧ ∃ q, w' = w.drewN q := by
  by_cases hl : a.length = b.length
  · have HB := Lib.hid (begins_q ad cap a bd bcap b 0 w ha hb hal)
    have e : beginsB a b 0 = sameB a b := by
      unfold beginsB sameB
      rw [decide_eq_decide]
      constructor
      · rintro ⟨_, _, h⟩; exact h.eq_of_length hl
      · rintro rfl; exact ⟨Nat.le_refl _, by omega, List.prefix_rfl⟩
    rw [e] at HB
    generalize sameB a b = R at HB ⊢
    rw [← hl] at HB ⊢
    clear e ha hb hl
    go_enter Tryz.func22, Tryz.ntmps22
    go_wp2_with fail
    refine HB.out.mono ?_
    rintro e w1 ⟨rfl, hb1⟩
    have HB1 := Lib.hid hb1
    clear hb1
    go_wp2_with fail
    go_ret
    exact ⟨rfl, HB1.out⟩
  · have e : sameB a b = false := by
      unfold sameB
      rw [decide_eq_false_iff_not]
      exact fun h => hl (congrArg List.length h)
    have hb2 : ((a.length : Int) == (b.length : Int)) = false := by rw [beq_eq_false_iff_ne]; omega
    rw [e]
    clear e ha hb hl
    go_enter Tryz.func22, Tryz.ntmps22
    go_wp2_with fail
    go_ret
    exact ⟨rfl, 0, rfl⟩
end Go.Proofs.YtkllnihhhgaojaaGreatDoor
namespace Go.Proofs.YtkllnihhhgaojaaGreatDoor
open Go Go.RowKit
set_option linter.unusedVariables false

theorem row_nil (W : World) (base : Nat) (hb : base ≤ W.heap.size) : (W.alloc (.cells #[] 9)).ownsRow base 9 1 (.slice (some ⟨W.heap.size, 0, none⟩) 0 0) 0 (strVals []) := World.ownsRow_lit W #[] 0 hb (Nat.zero_le _) rfl
/-- the statement's world, with what it may hold after j calls -/
def Sd (w0 : World) (b k mb wa j : Nat) (w : World) : Prop := ∃ lg P Bk L n av sv al sl safe turned, Wd w0 b k mb wa lg P Bk L n av sv al sl safe turned w ∧ Bk.length ≤ 10 * j + 10 ∧ n ≤ 4194306 + j * 4194305 ∧ al.length ≤ 2097152 + j ∧ sl.length ≤ 8
set_option maxRecDepth 100000 in
set_option maxHeartbeats 4000000 in
theorem reopen_any {w0 w : World} {b k mb wa j : Nat} (h : Sd w0 b k mb wa j w) (hj : j ≤ 100) :
    Calls Tryz.prog 26 #[.pointer (some ⟨wa, 0, none⟩)] w fun e w' => ∃ r, e = .returned (.bool r) ∧ Sd w0 b k mb wa (j + 1) w' := by
  obtain ⟨lg, P, Bk, L, n, av, sv, al, sl, safe, turned, h1, h2, h3, h4, h5⟩ := h
  have hO := fun (W : World) (hb : Below w.heap.size w W) => own_open (h1.own.below hb) (by omega) (by omega) (h1.own.ok.open Bk)
  obtain ⟨hol, hoL⟩ := wopen_out h1.own.ok Bk
  have hgd := h1.gd.open Bk
  have H1 := Lib.hid h1
  obtain ⟨ua, uc, hu⟩ := row_shape h1.arow
  obtain ⟨sa, sc, hsv⟩ := row_shape h1.srow
  subst hu
  subst hsv
  have c0 : w.cell? ⟨wa, 0, none⟩ = some (.pointer (some ⟨b, 0, none⟩)) := h1.wat.cell 0
  have c1 : w.cell? ⟨wa, 1, none⟩ = some (.pointer (some ⟨k, 0, none⟩)) := h1.wat.cell 1
  have hA0 : Hid (Below w.heap.size w w.drew) := Lib.hid (Below.refl _ w).drew
  generalize hR : wopen P Bk = R at hO hol hoL hgd
  have HgL := Lib.hid (And.intro hgd hoL)
  by_cases he : R.e = 0
  · have HO := Lib.hid (fun (W : World) (hb : Hid (Below w.heap.size w W)) => (show Calls Tryz.prog 15 #[.pointer (some ⟨b, 0, none⟩), .pointer (some ⟨k, 0, none⟩)] W fun e w' => ∃ lg2 ra rc, e = .returned (.tuple #[.pointer (some ⟨lg2, 0, none⟩), .slice ra R.out.length rc, .int .i64 0]) ∧ (w'.cell? ⟨wa, 0, none⟩ = some (.pointer (some ⟨b, 0, none⟩)) ∧ w'.cell? ⟨wa, 1, none⟩ = some (.pointer (some ⟨k, 0, none⟩))) ∧ Hid (LogAt w' lg2 b k R.L ∧ w0.heap.size ≤ lg2 ∧ w'.ownsRow w0.heap.size 9 1 (.slice ra R.out.length rc) R.out.length (strVals R.out) ∧ Wd w0 b k mb wa lg R.P Bk L (n + 2097152) (.slice ua al.length uc) (.slice sa sl.length sc) al sl safe turned w') from by
      refine (hO W hb.out).mono ?_
      rintro e w' ⟨ho, hk, ⟨h0, _⟩ | ⟨_, lg2, v, hlg, rfl, hl, hr⟩⟩
      · exact absurd he h0
      · obtain ⟨h9, hrk⟩ := (H1.out.below hb.out).same ho HgL.out.1 hk
        obtain ⟨ra, rc, rfl⟩ := row_shape hr
        have hsz : w0.heap.size ≤ W.heap.size := (H1.out.own.below hb.out).sz
        exact ⟨lg2, ra, rc, rfl, ⟨h9.wat.cell 0, h9.wat.cell 1⟩, Lib.hid ⟨hl, Nat.le_trans hsz hlg, row_base hr hsz, h9⟩⟩))
    have hR1 : R.out.length ≤ 2097152 := hol
    generalize hN : R.out.length = N at HO hR1
    generalize R.P = P2 at HO HgL
    generalize R.L = L2 at HO HgL
    generalize R.out = out at HO hN
    clear hO hol hoL hgd hR h1
    go_enter Tryz.func26, Tryz.ntmps26
    go_upto_region 1 with (fail)
    go_region_held3 (fun w' => w'.cell? ⟨wa, 0, none⟩ = some (.pointer (some ⟨b, 0, none⟩)) ∧ w'.cell? ⟨wa, 1, none⟩ = some (.pointer (some ⟨k, 0, none⟩)))
      (first | exact hc6 | go_keep)
      ((go_at_call 15; refine (HO.out _ (by assumption)).mono ?_; rintro e w6 ⟨lg2, ra, rc, rfl, hc6, h6⟩))
    clear HO hA0 c0 c1 hc6
    have d3 : w6.cell? ⟨wa, 3, none⟩ = some (.slice ua al.length uc) := h6.out.2.2.2.wat.cell 3
    have d4 : w6.cell? ⟨wa, 4, none⟩ = some (.int .i64 safe) := h6.out.2.2.2.wat.cell 4
    have d5 : w6.cell? ⟨wa, 5, none⟩ = some (.bool turned) := h6.out.2.2.2.wat.cell 5
    have d6 : w6.cell? ⟨wa, 6, none⟩ = some (.slice sa sl.length sc) := h6.out.2.2.2.wat.cell 6
    have HBg := Lib.hid (fun (q : Nat) => (show Calls Tryz.prog 17 #[.slice ra N rc, .slice ua al.length uc, .int .i64 safe] (w6.drewN q) fun e w' => e = .returned (.bool (beginsB out al safe)) ∧ ∃ m, w' = (w6.drewN q).drewN m from by
      have hr := h6.out.2.2.1
      have hb := below_drewN (Below.refl w6.heap.size w6) q
      rw [← hN] at hr ⊢
      have hs1 := RowIs.strs (x := ra) (y := rc) ⟨_, ownsRow_below hr hb⟩
      have hs2 := RowIs.strs (x := ua) (y := uc) ⟨_, ownsRow_below h6.out.2.2.2.arow hb⟩
      exact begins_q ra rc out ua uc al safe _ hs1 hs2 (by omega)))
    have HSm := Lib.hid (fun (q : Nat) => (show Calls Tryz.prog 22 #[.slice ra N rc, .slice sa sl.length sc] (w6.drewN q) fun e w' => e = .returned (.bool (sameB out sl)) ∧ ∃ m, w' = (w6.drewN q).drewN m from by
      have hr := h6.out.2.2.1
      have hb := below_drewN (Below.refl w6.heap.size w6) q
      rw [← hN] at hr ⊢
      have hs1 := RowIs.strs (x := ra) (y := rc) ⟨_, ownsRow_below hr hb⟩
      have hs2 := RowIs.strs (x := sa) (y := sc) ⟨_, ownsRow_below h6.out.2.2.2.srow hb⟩
      exact same_q ra rc out sa sc sl _ hs1 hs2 (by omega)))
    generalize beginsB out al safe = R1 at HBg
    generalize sameB out sl = R2 at HSm
    go_upto_region 4 with (fail)
    go_cut [46] (fun v wx => ∃ r, v = .bool r ∧ Hid (Below w6.heap.size w6 wx))
    case first =>
      clear h6
      cases R1 <;> cases turned <;> cases R2
      all_goals
        go_quiet (first
          | (go_at_call 17; exact Calls.quiet_of (HBg.out _))
          | (go_at_call 22; exact Calls.quiet_of (HSm.out _)))
        go_wp2_with fail
        go_meet
        exact ⟨_, rfl, Lib.hid (below_drewN (Below.refl _ _) _)⟩
    case rest =>
      obtain ⟨r, rfl, HB⟩ := hcut
      clear HBg HSm d3 d4 d5 d6
      cases r
      · have H9 := Lib.hid (h6.out.2.2.2.below HB.out)
        have HRv := Lib.hid (ownsRow_below h6.out.2.2.1 HB.out)
        have HLg := Lib.hid (Blk.below h6.out.1 HB.out)
        have hlg2 := h6.out.2.1
        have f2 : wc.frozen? ⟨wa, 2, none⟩ = false := H9.out.wat.free 2
        have e2 : wc.cell? ⟨wa, 2, none⟩ = some (.pointer (some ⟨lg, 0, none⟩)) := H9.out.wat.cell 2
        clear h6
        go_upto_region 6 with (fail)
        go_cut [] (fun wx => Hid (Wd w0 b k mb wa lg2 P2 Bk L2 (n + 2097152) (.slice ua al.length uc) (.slice sa sl.length sc) al sl safe turned wx ∧ wx.ownsRow w0.heap.size 9 1 (.slice ra N rc) N (strVals out)))
        case first =>
          go_wp2_with fail
          go_meet
          refine Lib.hid ⟨H9.out.set (Below.refl _ _) H9.out.arow H9.out.srow HLg.out hlg2 HgL.out.2 2 _ rfl, ?_⟩
          exact row_touch HRv.out (touch1_set (Touch.refl _ wc) _) (fun g hg e => row_ne HRv.out H9.out.wat (by decide) (by rw [hg, e]))
        case rest =>
          have H7 := hcut
          clear hcut H9 HRv HLg f2 e2
          have hw7 : Below wc.heap.size wc (wc.alloc (.cells #[] 9)) := (Below.refl _ wc).alloc (Nat.le_refl _) _
          have HRv := Lib.hid (ownsRow_below H7.out.2 hw7)
          have hbs : wc.heap.size ≤ (wc.alloc (.cells #[] 9)).heap.size := hw7.size
          go_upto_region 7 with (fail)
          go_cut [] (fun wx => ∃ va vc, Hid (Wd w0 b k mb wa lg2 P2 Bk L2 (n + 2097152) (.slice va N vc) (.slice sa sl.length sc) out sl safe turned wx))
          case first =>
            go_wp2_with (at_builtin; refine wpList_append_rows rfl _ _ rfl wc.heap.size w0.heap.size (.slice (some ⟨wc.heap.size, 0, none⟩) 0 0) (.slice ra N rc) 0 N N [] out rfl rfl (row_nil wc _ (Nat.le_refl _)) HRv.out (by omega) (by omega) hbs ?_; intro va vc w8 hr8 hb8; have hb78 := hw7.trans hb8; have f3 : w8.frozen? ⟨wa, 3, none⟩ = false := (Blk.below H7.out.1.wat hb78).free 3; have e3 : w8.cell? ⟨wa, 3, none⟩ = some (.slice ua al.length uc) := (Blk.below H7.out.1.wat hb78).cell 3)
            go_wp2_with fail
            go_meet
            refine ⟨va, vc, Lib.hid (H7.out.1.set hb78 ?_ (ownsRow_below H7.out.1.srow hb78) (Blk.below H7.out.1.log hb78) hlg2 HgL.out.2 3 _ rfl)⟩
            rw [hN]
            exact row_base hr8 H7.out.1.own.sz
          case rest =>
            obtain ⟨va, vc, H8⟩ := hcut
            clear H7 hw7 HRv hbs
            have f4 : wc.frozen? ⟨wa, 4, none⟩ = false := H8.out.wat.free 4
            have e4 : wc.cell? ⟨wa, 4, none⟩ = some (.int .i64 safe) := H8.out.wat.cell 4
            go_upto_region 8 with (fail)
            go_cut [] (fun wx => Hid (Wd w0 b k mb wa lg2 P2 Bk L2 (n + 2097152) (.slice va N vc) (.slice sa sl.length sc) out sl (N : Int) turned wx))
            case first =>
              go_wp2_with fail
              go_meet
              exact Lib.hid (H8.out.set (Below.refl _ _) H8.out.arow H8.out.srow H8.out.log hlg2 HgL.out.2 4 _ rfl)
            case rest =>
              have H10 := hcut
              clear hcut H8 f4 e4
              have f5 : wc.frozen? ⟨wa, 5, none⟩ = false := H10.out.wat.free 5
              have e5 : wc.cell? ⟨wa, 5, none⟩ = some (.bool turned) := H10.out.wat.cell 5
              go_wp2_with fail
              go_ret
              exact ⟨_, rfl, lg2, P2, Bk, L2, _, _, _, out, sl, (N : Int), false, H10.out.set (Below.refl _ _) H10.out.arow H10.out.srow H10.out.log hlg2 HgL.out.2 5 _ rfl, by omega, by omega, by omega, h5⟩
      · have H9 := Lib.hid (h6.out.2.2.2.below HB.out)
        clear h6
        go_wp2_with fail
        go_ret
        exact ⟨_, rfl, lg, P2, Bk, L, _, _, _, al, sl, safe, turned, H9.out, by omega, by omega, by omega, h5⟩
  · have HO := Lib.hid (fun (W : World) (hb : Hid (Below w.heap.size w W)) => (show Calls Tryz.prog 15 #[.pointer (some ⟨b, 0, none⟩), .pointer (some ⟨k, 0, none⟩)] W fun e w' => e = .returned (.tuple #[.pointer none, .slice none 0 0, .int .i64 R.e]) ∧ (w'.cell? ⟨wa, 0, none⟩ = some (.pointer (some ⟨b, 0, none⟩)) ∧ w'.cell? ⟨wa, 1, none⟩ = some (.pointer (some ⟨k, 0, none⟩))) ∧ Hid (Wd w0 b k mb wa lg R.P Bk L (n + 2097152) (.slice ua al.length uc) (.slice sa sl.length sc) al sl safe turned w') from by
      refine (hO W hb.out).mono ?_
      rintro e w' ⟨ho, hk, ⟨_, rfl⟩ | ⟨h0, _⟩⟩
      · obtain ⟨h9, hrk⟩ := (H1.out.below hb.out).same ho HgL.out.1 hk
        exact ⟨rfl, ⟨h9.wat.cell 0, h9.wat.cell 1⟩, Lib.hid h9⟩
      · exact absurd h0 he))
    generalize R.e = re at HO he
    generalize R.P = P2 at HO HgL
    have heb : (re == 0) = false := by simpa using he
    clear hO hol hoL hgd hR h1
    go_enter Tryz.func26, Tryz.ntmps26
    go_upto_region 1 with (fail)
    go_region_held3 (fun w' => w'.cell? ⟨wa, 0, none⟩ = some (.pointer (some ⟨b, 0, none⟩)) ∧ w'.cell? ⟨wa, 1, none⟩ = some (.pointer (some ⟨k, 0, none⟩)))
      (first | exact hc6 | go_keep)
      ((go_at_call 15; refine (HO.out _ (by assumption)).mono ?_; rintro e w6 ⟨rfl, hc6, h6⟩))
    clear HO hA0 c0 c1 hc6
    go_wp2_with fail
    go_ret
    exact ⟨_, rfl, lg, P2, Bk, L, _, _, _, al, sl, safe, turned, h6.out, by omega, by omega, by omega, h5⟩
end Go.Proofs.YtkllnihhhgaojaaGreatDoor
namespace Go.Proofs.YtkllnihhhgaojaaGreatDoor
open Go Go.RowKit
set_option linter.unusedVariables false

theorem Wd.up {w0 w : World} {b k mb wa lg n : Nat} {P : PS} {Bk al sl : List ByteArray} {L : LG} {av sv : Value} {safe : Int} {turned : Bool} (h : Wd w0 b k mb wa lg P Bk L n av sv al sl safe turned w) :
    Calls Tryz.prog 48 #[.pointer (some ⟨b, 0, none⟩)] w fun e w' => e = .returned (.bool (!P.off)) ∧ w = w' := by
  obtain ⟨S, hp, hR, hf⟩ := h.own.dev
  subst hp
  exact up_any b S w hR.dev
set_option maxRecDepth 100000 in
set_option maxHeartbeats 4000000 in
theorem turned_any {w0 w : World} {b k mb wa j : Nat} (h : Sd w0 b k mb wa j w) (hj : j ≤ 100) {x : Option Addr} {y : Nat} {snap : List ByteArray} (hrow : w.ownsRow w0.heap.size 9 1 (.slice x snap.length y) snap.length (strVals snap)) (hsl : snap.length ≤ 8) :
    Calls Tryz.prog 49 #[.pointer (some ⟨wa, 0, none⟩), .slice x snap.length y] w fun e w' => ∃ r, e = .returned (.bool r) ∧ Sd w0 b k mb wa (j + 1) w' := by
  obtain ⟨lg, P, Bk, L, n, av, sv, al, sl, safe, turned, h1, h2, h3, h4, h5⟩ := h
  have H1 := Lib.hid h1
  obtain ⟨ua, uc, hu⟩ := row_shape h1.arow
  obtain ⟨sa, sc, hsv⟩ := row_shape h1.srow
  subst hu
  subst hsv
  have HT := Lib.hid (show Calls Tryz.prog 19 #[.pointer (some ⟨lg, 0, none⟩), .slice x snap.length y] w fun e w' => e = .returned (.int .i64 (wturn P Bk L snap).e) ∧ Hid (Wd w0 b k mb wa lg (wturn P Bk L snap).P (wturn P Bk L snap).B (wturn P Bk L snap).L (n + 4194305) (.slice ua al.length uc) (.slice sa sl.length sc) al sl safe turned w' ∧ w'.ownsRow w0.heap.size 9 1 (.slice x snap.length y) snap.length (strVals snap)) from by
    obtain ⟨ad2, cap2, e2, hs⟩ := readsStrs_own (ss := snap) hrow
    injection e2 with e2 _ _
    subst e2
    have hok : (wturn P Bk L snap).L.Ok := by
      have hn := h1.lok.n
      unfold wturn
      split
      · exact h1.lok
      · split
        · exact h1.lok
        · exact wbegin_L (by rename_i h9 _; omega) snap
    refine (own_turn h1.own h1.lgb h1.log h1.lok (by omega) hs (fun S hR hf _ g' off' e => ?_) (by omega) (by omega)).mono ?_
    · obtain ⟨h7, h8⟩ := row_beside hR hrow (by decide) g' (by rw [e]; rfl)
      exact ⟨h7, h8, fun h => h⟩
    · rintro e w' ⟨rfl, ho, hl, hk⟩
      obtain ⟨h9, hrk⟩ := h1.next (ho.mono (m := n + 4194305) (by omega)) hl hok (h1.gd.turn Bk h1.lok snap) hk
      exact ⟨rfl, Lib.hid ⟨h9, hrk _ _ _ _ hrow⟩⟩)
  have hBl : (wturn P Bk L snap).B.length ≤ 10 * (j + 1) + 10 := by
    have hb := wbegin_B P Bk (L.n + 1) snap
    unfold wturn
    split
    · show Bk.length ≤ _; omega
    · split
      · show (wbegin P Bk (L.n + 1) snap).B.length ≤ _; omega
      · show (wbegin P Bk (L.n + 1) snap).B.length ≤ _; omega
  have c0 : w.cell? ⟨wa, 0, none⟩ = some (.pointer (some ⟨b, 0, none⟩)) := h1.wat.cell 0
  have c2 : w.cell? ⟨wa, 2, none⟩ = some (.pointer (some ⟨lg, 0, none⟩)) := h1.wat.cell 2
  have HUp := Lib.hid h1.up
  have HSg := Lib.hid (logSegment_any lg b k L w h1.log)
  generalize wturn P Bk L snap = R at HT hBl
  generalize (!P.off) = U at HUp
  clear h1 hrow
  go_enter Tryz.func49, Tryz.ntmps49
  go_wp2_with fail
  refine HUp.out.mono ?_
  rintro e w1 ⟨rfl, rfl⟩
  go_wp2_with fail
  refine HSg.out.mono ?_
  rintro e w1 ⟨rfl, rfl⟩
  go_wp2_with fail
  refine HT.out.mono ?_
  rintro e w3 ⟨rfl, h3r⟩
  clear HT HUp HSg c0 c2 H1
  have HUp3 := Lib.hid h3r.out.1.up
  have HSg3 := Lib.hid (logSegment_any lg b k R.L w3 h3r.out.1.log)
  have c0 : w3.cell? ⟨wa, 0, none⟩ = some (.pointer (some ⟨b, 0, none⟩)) := h3r.out.1.wat.cell 0
  have c2 : w3.cell? ⟨wa, 2, none⟩ = some (.pointer (some ⟨lg, 0, none⟩)) := h3r.out.1.wat.cell 2
  have c3 : w3.cell? ⟨wa, 3, none⟩ = some (.slice ua al.length uc) := h3r.out.1.wat.cell 3
  have c4 : w3.cell? ⟨wa, 4, none⟩ = some (.int .i64 safe) := h3r.out.1.wat.cell 4
  have c5 : w3.cell? ⟨wa, 5, none⟩ = some (.bool turned) := h3r.out.1.wat.cell 5
  have c6 : w3.cell? ⟨wa, 6, none⟩ = some (.slice sa sl.length sc) := h3r.out.1.wat.cell 6
  have f3 : w3.frozen? ⟨wa, 3, none⟩ = false := h3r.out.1.wat.free 3
  have f4 : w3.frozen? ⟨wa, 4, none⟩ = false := h3r.out.1.wat.free 4
  have f5 : w3.frozen? ⟨wa, 5, none⟩ = false := h3r.out.1.wat.free 5
  have f6 : w3.frozen? ⟨wa, 6, none⟩ = false := h3r.out.1.wat.free 6
  by_cases he0 : R.e = 0
  · have HK := Lib.hid (show Wd w0 b k mb wa lg R.P R.B R.L (n + 4194305) (.slice x snap.length y) (.slice sa sl.length sc) snap sl (snap.length : Int) false (((w3.setCell ⟨wa, 3, none⟩ (.slice x snap.length y)).setCell ⟨wa, 4, none⟩ (.int .i64 (snap.length : Int))).setCell ⟨wa, 5, none⟩ (.bool false)) from by
      have k1 := h3r.out.1.set (Below.refl _ _) (av2 := .slice x snap.length y) (al2 := snap) h3r.out.2 h3r.out.1.srow h3r.out.1.log h3r.out.1.lgb h3r.out.1.lok 3 _ rfl
      have k2 := k1.set (Below.refl _ _) k1.arow k1.srow k1.log k1.lgb k1.lok (safe2 := (snap.length : Int)) 4 _ rfl
      exact k2.set (Below.refl _ _) k2.arow k2.srow k2.log k2.lgb k2.lok (turned2 := false) 5 _ rfl)
    generalize R.e = re at he0 ⊢
    subst he0
    cases U
    · go_wp2_with fail
      go_ret
      exact ⟨_, rfl, lg, R.P, R.B, R.L, _, _, _, snap, sl, _, _, HK.out, by omega, by omega, by omega, h5⟩
    · go_wp2_with fail
      refine (logSegment_any lg b k R.L _ HK.out.log).mono ?_
      rintro e w4 ⟨rfl, rfl⟩
      go_wp2_with fail
      go_ret
      exact ⟨_, rfl, lg, R.P, R.B, R.L, _, _, _, snap, sl, _, _, HK.out, by omega, by omega, by omega, h5⟩
  · by_cases he14 : R.e = 14
    · generalize R.e = re at he14 ⊢
      subst he14
      clear he0
      cases U
      · go_wp2_with fail
        refine HUp3.out.mono ?_
        rintro e w4 ⟨rfl, rfl⟩
        go_wp2_with fail
        go_ret
        exact ⟨_, rfl, lg, R.P, R.B, R.L, _, _, _, al, sl, _, _, h3r.out.1, by omega, by omega, by omega, h5⟩
      · have HK := Lib.hid (show Wd w0 b k mb wa lg R.P R.B R.L (n + 4194305) (.slice ua al.length uc) (.slice x snap.length y) al snap safe true ((w3.setCell ⟨wa, 5, none⟩ (.bool true)).setCell ⟨wa, 6, none⟩ (.slice x snap.length y)) from by
          have k1 := h3r.out.1.set (Below.refl _ _) h3r.out.1.arow h3r.out.1.srow h3r.out.1.log h3r.out.1.lgb h3r.out.1.lok (turned2 := true) 5 _ rfl
          have hrow5 : (w3.setCell ⟨wa, 5, none⟩ (.bool true)).ownsRow w0.heap.size 9 1 (.slice x snap.length y) snap.length (strVals snap) := row_touch h3r.out.2 (touch1_set (Touch.refl _ w3) _) (fun g hg e => row_ne h3r.out.2 h3r.out.1.wat (by decide) (by rw [hg, e]))
          exact k1.set (Below.refl _ _) (sv2 := .slice x snap.length y) (sl2 := snap) k1.arow hrow5 k1.log k1.lgb k1.lok 6 _ rfl)
        go_wp2_with fail
        refine HK.out.up.mono ?_
        rintro e w4 ⟨rfl, rfl⟩
        go_wp2_with fail
        go_ret
        exact ⟨_, rfl, lg, R.P, R.B, R.L, _, _, _, al, snap, _, _, HK.out, by omega, by omega, by omega, hsl⟩
    · have hb0 : (R.e == 0) = false := by simpa using he0
      have hb14 : (R.e == 14) = false := by simpa using he14
      generalize R.e = re at he0 he14 hb0 hb14 ⊢
      by_cases he7 : re = 7
      · subst he7
        cases U
        · go_wp2_with fail
          go_ret
          exact ⟨_, rfl, lg, R.P, R.B, R.L, _, _, _, al, sl, _, _, h3r.out.1, by omega, by omega, by omega, h5⟩
        · go_wp2_with fail
          refine HSg3.out.mono ?_
          rintro e w4 ⟨rfl, rfl⟩
          go_wp2_with fail
          go_ret
          exact ⟨_, rfl, lg, R.P, R.B, R.L, _, _, _, al, sl, _, _, h3r.out.1, by omega, by omega, by omega, h5⟩
      · have hb7 : (re == 7) = false := by simpa using he7
        go_wp2_with fail
        go_ret
        exact ⟨_, rfl, lg, R.P, R.B, R.L, _, _, _, al, sl, _, _, h3r.out.1, by omega, by omega, by omega, h5⟩
end Go.Proofs.YtkllnihhhgaojaaGreatDoor
namespace Go.Proofs.YtkllnihhhgaojaaGreatDoor
open Go Go.RowKit
set_option linter.unusedVariables false

theorem n_up {n j : Nat} (h : n ≤ 4194306 + j * 4194305) : n ≤ 4194306 + (j + 1) * 4194305 := Nat.le_trans h (Nat.add_le_add_left (Nat.mul_le_mul_right _ (Nat.le_succ j)) _)
def opVals (kind nn : Int) (text : ByteArray) (sa : Option Addr) (sn sc : Nat) (fa : Option Addr) (fn fc : Nat) : List Value := [.int .i64 kind, .int .i64 nn, .string text, .slice sa sn sc, .slice fa fn fc]
theorem Wd.append {w0 w : World} {b k mb wa lg n : Nat} {P : PS} {Bk al sl : List ByteArray} {L : LG} {av sv : Value} {safe : Int} {turned : Bool} (h : Wd w0 b k mb wa lg P Bk L n av sv al sl safe turned w) (hn : n ≤ 890000000) (hB : Bk.length + 1 ≤ 1000000000) (s : ByteArray) :
    Calls Tryz.prog 11 #[.pointer (some ⟨lg, 0, none⟩), .string s] w fun e w' => e = .returned (.int .i64 (wappend P Bk L s).e) ∧ Wd w0 b k mb wa lg (wappend P Bk L s).P (wappend P Bk L s).B (wappend P Bk L s).L (n + 2097152) av sv al sl safe turned w' := by
  refine (own_append h.own h.lgb h.log h.lok (by omega) hB s).mono ?_
  rintro e w' ⟨rfl, ho, hl, hk⟩
  exact ⟨rfl, (h.next ho hl (wput_L h.lok 82 [s]) (h.gd.wput Bk L 82 [s]) hk).1⟩
theorem Wd.sync {w0 w : World} {b k mb wa lg n : Nat} {P : PS} {Bk al sl : List ByteArray} {L : LG} {av sv : Value} {safe : Int} {turned : Bool} (h : Wd w0 b k mb wa lg P Bk L n av sv al sl safe turned w) (hn : n ≤ 890000000) :
    Calls Tryz.prog 13 #[.pointer (some ⟨lg, 0, none⟩)] w fun e w' => e = .returned (.int .i64 P.syncR.1) ∧ Wd w0 b k mb wa lg P.syncR.2 Bk L n av sv al sl safe turned w' := by
  refine (own_sync h.own h.log (by omega)).mono ?_
  rintro e w' ⟨rfl, ho, hk⟩
  exact ⟨rfl, (h.same ho h.gd.syncR hk).1⟩
theorem Wd.crash {w0 w : World} {b k mb wa lg n : Nat} {P : PS} {Bk al sl : List ByteArray} {L : LG} {av sv : Value} {safe : Int} {turned : Bool} (h : Wd w0 b k mb wa lg P Bk L n av sv al sl safe turned w) (hn : n ≤ 890000000) (fa : Option Addr) (fc : Nat) (l : List Int) (hfa : IntsAt .i64 w fa l) (hfo : ∀ g off, l ≠ [] → fa = some ⟨g, off, none⟩ → g < w0.heap.size) (hll : l.length ≤ 9223372036854775807) :
    Calls Tryz.prog 20 #[.pointer (some ⟨b, 0, none⟩), .slice fa l.length fc] w fun e w' => e = .returned (.tuple #[]) ∧ Wd w0 b k mb wa lg (P.crash l) Bk L n av sv al sl safe turned w' := by
  refine (own_crash h.own (by omega) fa fc l hfa (fun g off h1 h2 => Or.inl (hfo g off h1 h2)) hll).mono ?_
  rintro e w' ⟨rfl, ho, hk⟩
  exact ⟨rfl, (h.same ho (h.gd.crash l) hk).1⟩
theorem Wd.arm {w0 w : World} {b k mb wa lg n : Nat} {P : PS} {Bk al sl : List ByteArray} {L : LG} {av sv : Value} {safe : Int} {turned : Bool} (h : Wd w0 b k mb wa lg P Bk L n av sv al sl safe turned w) (i : Int) (hi : i ≤ 9223372036854775807) :
    Calls Tryz.prog 27 #[.pointer (some ⟨b, 0, none⟩), .int .i64 i] w fun e w' => (∃ r, e = .returned (.int .i64 r)) ∧ Wd w0 b k mb wa lg (P.arm i).2 Bk L n av sv al sl safe turned w' := by
  refine (own_dev (Q := fun e => e = .returned (.int .i64 (P.arm i).1)) h.own (fun S hp hR => by
    subst hp
    exact arm_any b S i w hR.dev) (h.own.ok.arm i hi)).mono ?_
  rintro e w' ⟨rfl, ho, hk⟩
  exact ⟨⟨_, rfl⟩, (h.same ho (h.gd.arm i) hk).1⟩
set_option maxRecDepth 100000 in
set_option maxHeartbeats 4000000 in
theorem step_two {w0 w : World} {b k mb wa j : Nat} (h : Sd w0 b k mb wa j w) (hj : j ≤ 99) (nn : Int) (text : ByteArray) (sa : Option Addr) (ss : List ByteArray) (sc : Nat) (fa : Option Addr) (fn fc : Nat) (hss : StrsAt w0 sa ss) (hsm : ss.length ≤ maxLen) :
    Calls Tryz.prog 25 #[.pointer (some ⟨wa, 0, none⟩), .agg #[.int .i64 2, .int .i64 nn, .string text, .slice sa ss.length sc, .slice fa fn fc]] w fun e w' => ∃ r, e = .returned (.bool r) ∧ Sd w0 b k mb wa (j + 1) w' := by
  obtain ⟨lg, P, Bk, L, n, av, sv, al, sl, safe, turned, h1, h2, h3, h4, h5⟩ := h
  have c0 : ∀ o, (w.alloc o).cell? ⟨wa, 0, none⟩ = some (.pointer (some ⟨b, 0, none⟩)) := fun o => (Blk.alloc h1.wat o).cell 0
  have HUp := Lib.hid (fun W (hb : Below w.heap.size w W) => (h1.below hb).up)
  have HFw := Lib.hid (fun W (hb : Below w.heap.size w W) => few_any sa sc ss W (strsAt_below hss (h1.below hb).own.bel) hsm)
  have HTd := Lib.hid (fun (W : World) (hb : Below w.heap.size w W) (v : Value) (hr : W.ownsRow w0.heap.size 9 1 v (wfew ss).length (strVals (wfew ss))) => (show Calls Tryz.prog 49 #[.pointer (some ⟨wa, 0, none⟩), v] W fun e w' => ∃ r, e = .returned (.bool r) ∧ Sd w0 b k mb wa (j + 1) w' from by
    obtain ⟨x, y, rfl⟩ := row_shape hr
    exact turned_any ⟨lg, P, Bk, L, n, av, sv, al, sl, safe, turned, h1.below hb, h2, h3, h4, h5⟩ (by omega) hr (wfew_len ss)))
  have hb1 := fun o => (Below.refl _ w).alloc (Nat.le_refl _) o
  have hsz := h1.own.sz
  clear h1 hss
  go_enter Tryz.func25, Tryz.ntmps25
  go_wp2_with fail
  refine (HUp.out _ (hb1 _)).mono ?_
  rintro e w1 ⟨rfl, rfl⟩
  go_wp2_with fail
  refine (HFw.out _ (hb1 _)).mono ?_
  rintro e w2 ⟨v, rfl, hr, hb2⟩
  have hb3 := below_step (hb1 _) hb2
  have hr2 := row_base hr (show w0.heap.size ≤ _ from Nat.le_trans hsz (hb1 _).size)
  go_wp2_with fail
  refine (HTd.out _ hb3 _ hr2).mono ?_
  rintro e w4 ⟨r, rfl, h4r⟩
  go_wp2_with fail
  go_ret
  exact ⟨_, rfl, h4r⟩
set_option maxRecDepth 100000 in
set_option maxHeartbeats 4000000 in
theorem step_one {w0 w : World} {b k mb wa j : Nat} (h : Sd w0 b k mb wa j w) (hj : j ≤ 99) (nn : Int) (text : ByteArray) (sa : Option Addr) (sn sc : Nat) (fa : Option Addr) (fn fc : Nat) :
    Calls Tryz.prog 25 #[.pointer (some ⟨wa, 0, none⟩), .agg #[.int .i64 1, .int .i64 nn, .string text, .slice sa sn sc, .slice fa fn fc]] w fun e w' => ∃ r, e = .returned (.bool r) ∧ Sd w0 b k mb wa (j + 1) w' := by
  obtain ⟨lg, P, Bk, L, n, av, sv, al, sl, safe, turned, h1, h2, h3, h4, h5⟩ := h
  obtain ⟨ua, uc, hu⟩ := row_shape h1.arow
  subst hu
  have c0 : ∀ o, (w.alloc o).cell? ⟨wa, 0, none⟩ = some (.pointer (some ⟨b, 0, none⟩)) := fun o => (Blk.alloc h1.wat o).cell 0
  have c2 : ∀ o, (w.alloc o).cell? ⟨wa, 2, none⟩ = some (.pointer (some ⟨lg, 0, none⟩)) := fun o => (Blk.alloc h1.wat o).cell 2
  have HUp := Lib.hid (fun W (hb : Below w.heap.size w W) => (h1.below hb).up)
  have HSy := Lib.hid (fun W (hb : Below w.heap.size w W) => (h1.below hb).sync (by omega))
  have hb1 := fun o => (Below.refl _ w).alloc (Nat.le_refl _) o
  have h2s := syncR_two P
  generalize P.syncR.1 = re at HSy h2s
  generalize P.syncR.2 = P2 at HSy
  generalize (!P.off) = U at HUp
  clear h1
  go_enter Tryz.func25, Tryz.ntmps25
  go_wp2_with fail
  refine (HUp.out _ (hb1 _)).mono ?_
  rintro e w1 ⟨rfl, rfl⟩
  go_wp2_with fail
  refine (HSy.out _ (hb1 _)).mono ?_
  rintro e w4 ⟨rfl, h4r⟩
  have H4 := Lib.hid h4r
  clear h4r HSy HUp c0 c2
  have c3 : w4.cell? ⟨wa, 3, none⟩ = some (.slice ua al.length uc) := H4.out.wat.cell 3
  have c4 : w4.cell? ⟨wa, 4, none⟩ = some (.int .i64 safe) := H4.out.wat.cell 4
  have f4 : w4.frozen? ⟨wa, 4, none⟩ = false := H4.out.wat.free 4
  rcases h2s with rfl | rfl
  · have HK := Lib.hid (H4.out.set (Below.refl _ _) H4.out.arow H4.out.srow H4.out.log H4.out.lgb H4.out.lok (safe2 := (al.length : Int)) 4 _ rfl)
    cases U
    all_goals
      go_wp2_with fail
      go_ret
      exact ⟨_, rfl, lg, P2, Bk, L, _, _, _, al, sl, _, _, HK.out, by omega, n_up h3, by omega, h5⟩
  · cases U
    all_goals
      go_wp2_with fail
      go_ret
      exact ⟨_, rfl, lg, P2, Bk, L, _, _, _, al, sl, _, _, H4.out, by omega, n_up h3, by omega, h5⟩
set_option maxRecDepth 100000 in
set_option maxHeartbeats 4000000 in
theorem step_three {w0 w : World} {b k mb wa j : Nat} (h : Sd w0 b k mb wa j w) (hj : j ≤ 99) (nn : Int) (text : ByteArray) (sa : Option Addr) (sn sc : Nat) (fa : Option Addr) (l : List Int) (fc : Nat) (hfa : IntsAt .i64 w0 fa l) (hfo : ∀ g off, l ≠ [] → fa = some ⟨g, off, none⟩ → g < w0.heap.size) (hll : l.length ≤ 9223372036854775807) :
    Calls Tryz.prog 25 #[.pointer (some ⟨wa, 0, none⟩), .agg #[.int .i64 3, .int .i64 nn, .string text, .slice sa sn sc, .slice fa l.length fc]] w fun e w' => ∃ r, e = .returned (.bool r) ∧ Sd w0 b k mb wa (j + 1) w' := by
  obtain ⟨lg, P, Bk, L, n, av, sv, al, sl, safe, turned, h1, h2, h3, h4, h5⟩ := h
  have c0 : ∀ o, (w.alloc o).cell? ⟨wa, 0, none⟩ = some (.pointer (some ⟨b, 0, none⟩)) := fun o => (Blk.alloc h1.wat o).cell 0
  have HUp := Lib.hid (fun W (hb : Below w.heap.size w W) => (h1.below hb).up)
  have HCr := Lib.hid (fun (W : World) (hb : Below w.heap.size w W) => (show Calls Tryz.prog 20 #[.pointer (some ⟨b, 0, none⟩), .slice fa l.length fc] W fun e w' => e = .returned (.tuple #[]) ∧ Hid (Sd w0 b k mb wa j w') from by
    have hw := h1.below hb
    refine (hw.crash (by omega) fa fc l (intsAt_below hfa hw.own.bel) hfo hll).mono ?_
    rintro e w' ⟨rfl, h9⟩
    exact ⟨rfl, Lib.hid ⟨lg, _, Bk, L, n, av, sv, al, sl, safe, turned, h9, h2, h3, h4, h5⟩⟩))
  have hb1 := fun o => (Below.refl _ w).alloc (Nat.le_refl _) o
  clear h1 hfa hfo
  go_enter Tryz.func25, Tryz.ntmps25
  go_wp2_with fail
  refine (HUp.out _ (hb1 _)).mono ?_
  rintro e w1 ⟨rfl, rfl⟩
  go_upto_region 19 with (fail)
  go_cut [] (fun wx => Hid (Sd w0 b k mb wa j wx))
  case first =>
    go_region_law (first
      | (go_simp; go_at_call 20; refine (HCr.out _ (hb1 _).drew).mono ?_; rintro e w3 ⟨rfl, h3r⟩))
    all_goals go_wp2_with fail
    all_goals go_meet
    all_goals exact h3r
  case rest =>
    go_wp2_with fail
    refine (reopen_any hcut.out (by omega)).mono ?_
    rintro e w4 ⟨r, rfl, h4r⟩
    go_wp2_with fail
    go_ret
    exact ⟨_, rfl, h4r⟩
set_option maxRecDepth 100000 in
set_option maxHeartbeats 4000000 in
theorem step_else {w0 w : World} {b k mb wa j : Nat} (h : Sd w0 b k mb wa j w) (hj : j ≤ 99) (kind nn : Int) (text : ByteArray) (sa : Option Addr) (sn sc : Nat) (fa : Option Addr) (fn fc : Nat) (hk0 : ¬ kind = 0) (hk1 : ¬ kind = 1) (hk2 : ¬ kind = 2) (hk3 : ¬ kind = 3) (hnn : nn ≤ 9223372036854775807) :
    Calls Tryz.prog 25 #[.pointer (some ⟨wa, 0, none⟩), .agg #[.int .i64 kind, .int .i64 nn, .string text, .slice sa sn sc, .slice fa fn fc]] w fun e w' => ∃ r, e = .returned (.bool r) ∧ Sd w0 b k mb wa (j + 1) w' := by
  obtain ⟨lg, P, Bk, L, n, av, sv, al, sl, safe, turned, h1, h2, h3, h4, h5⟩ := h
  have c0 : ∀ o, (w.alloc o).cell? ⟨wa, 0, none⟩ = some (.pointer (some ⟨b, 0, none⟩)) := fun o => (Blk.alloc h1.wat o).cell 0
  have HUp := Lib.hid (fun W (hb : Below w.heap.size w W) => (h1.below hb).up)
  have HAr := Lib.hid (fun (W : World) (hb : Below w.heap.size w W) => (show Calls Tryz.prog 27 #[.pointer (some ⟨b, 0, none⟩), .int .i64 nn] W fun e w' => (∃ r, e = .returned (.int .i64 r)) ∧ Hid (Sd w0 b k mb wa (j + 1) w') from by
    refine ((h1.below hb).arm nn hnn).mono ?_
    rintro e w' ⟨he, h9⟩
    exact ⟨he, Lib.hid ⟨lg, _, Bk, L, n, av, sv, al, sl, safe, turned, h9, by omega, n_up h3, by omega, h5⟩⟩))
  have hb1 := fun o => (Below.refl _ w).alloc (Nat.le_refl _) o
  have e0 : (kind == 0) = false := by simpa using hk0
  have e1 : (kind == 1) = false := by simpa using hk1
  have e2 : (kind == 2) = false := by simpa using hk2
  have e3 : (kind == 3) = false := by simpa using hk3
  clear h1
  go_enter Tryz.func25, Tryz.ntmps25
  go_wp2_with fail
  refine (HUp.out _ (hb1 _)).mono ?_
  rintro e w1 ⟨rfl, rfl⟩
  go_upto_region 3 with (fail)
  go_cut [] (fun wx => Hid (Sd w0 b k mb wa (j + 1) wx))
  case first =>
    go_region_law (first
      | (go_simp; go_at_call 27; refine (HAr.out _ (hb1 _).drew).mono ?_; rintro e w3 ⟨⟨r, rfl⟩, h3r⟩))
    all_goals go_wp2_with fail
    all_goals go_meet
    all_goals exact h3r
  case rest =>
    go_wp2_with fail
    go_ret
    exact ⟨_, rfl, hcut.out⟩
set_option maxRecDepth 100000 in
set_option maxHeartbeats 4000000 in
theorem step_zero {w0 w : World} {b k mb wa j : Nat} (h : Sd w0 b k mb wa j w) (hj : j ≤ 99) (nn : Int) (text : ByteArray) (sa : Option Addr) (sn sc : Nat) (fa : Option Addr) (fn fc : Nat) :
    Calls Tryz.prog 25 #[.pointer (some ⟨wa, 0, none⟩), .agg #[.int .i64 0, .int .i64 nn, .string text, .slice sa sn sc, .slice fa fn fc]] w fun e w' => ∃ r, e = .returned (.bool r) ∧ Sd w0 b k mb wa (j + 1) w' := by
  obtain ⟨lg, P, Bk, L, n, av, sv, al, sl, safe, turned, h1, h2, h3, h4, h5⟩ := h
  obtain ⟨ua, uc, hu⟩ := row_shape h1.arow
  subst hu
  have c0 : ∀ o, (w.alloc o).cell? ⟨wa, 0, none⟩ = some (.pointer (some ⟨b, 0, none⟩)) := fun o => (Blk.alloc h1.wat o).cell 0
  have c2 : ∀ o, (w.alloc o).cell? ⟨wa, 2, none⟩ = some (.pointer (some ⟨lg, 0, none⟩)) := fun o => (Blk.alloc h1.wat o).cell 2
  have HUp := Lib.hid (fun W (hb : Below w.heap.size w W) => (h1.below hb).up)
  have HC := Lib.hid (fun W => wcut_any text W)
  generalize wcut text = c at HC
  have HAp := Lib.hid (fun W (hb : Below w.heap.size w W) => (h1.below hb).append (by omega) (by omega) c)
  have hBl : (wappend P Bk L c).B.length ≤ Bk.length + 1 := wput_B P Bk L 82 [c]
  have hb1 := fun o => (Below.refl _ w).alloc (Nat.le_refl _) o
  generalize (!P.off) = U at HUp
  generalize wappend P Bk L c = R at HAp hBl
  clear h1
  go_enter Tryz.func25, Tryz.ntmps25
  go_wp2_with fail
  refine (HUp.out _ (hb1 _)).mono ?_
  rintro e w1 ⟨rfl, rfl⟩
  go_wp2_with fail
  refine (HC.out _).mono ?_
  rintro e w1 ⟨rfl, rfl⟩
  go_wp2_with fail
  refine (HAp.out _ (hb1 _)).mono ?_
  rintro e w4 ⟨rfl, h4r⟩
  have H4 := Lib.hid h4r
  clear h4r HAp HUp c0 c2 HC
  have c0 : w4.cell? ⟨wa, 0, none⟩ = some (.pointer (some ⟨b, 0, none⟩)) := H4.out.wat.cell 0
  have c3 : ∀ o, (w4.alloc o).cell? ⟨wa, 3, none⟩ = some (.slice ua al.length uc) := fun o => (Blk.alloc H4.out.wat o).cell 3
  have hw5 := fun o => (Below.refl _ w4).alloc (Nat.le_refl _) o
  have HA5 := Lib.hid (ownsRow_below H4.out.arow (hw5 (.cells #[] 9)))
  have hbs := (hw5 (.cells #[] 9)).size
  by_cases he0 : R.e = 0
  · generalize R.e = re at he0 ⊢
    subst he0
    cases U
    all_goals
      go_wp2_with (first
      | (at_builtin; refine wpList_append_rows rfl _ _ rfl w4.heap.size w0.heap.size (.slice (some ⟨w4.heap.size, 0, none⟩) 0 0) (.slice ua al.length uc) 0 al.length al.length [] al rfl rfl (row_nil w4 _ (Nat.le_refl _)) HA5.out (by omega) (by omega) hbs ?_; intro va vc w6 hr6 hb6; have hb46 := (hw5 _).trans hb6)
      | (at_builtin; refine wpList_append_rows rfl _ _ rfl w4.heap.size w6.heap.size (.slice va al.length vc) (.slice (some ⟨w6.heap.size, 0, none⟩) 1 1) al.length 1 (al.length + 1) al [c] rfl rfl (ownsRow_below hr6 ((Below.refl _ w6).alloc (Nat.le_refl _) _)) (World.ownsRow_lit w6 #[.string c] 1 (Nat.le_refl _) (by decide) rfl) rfl (by omega) (Nat.le_trans hb46.size ((Below.refl _ w6).alloc (Nat.le_refl _) (.cells #[.string c] 9)).size) ?_; intro vb vd w7 hr7 hb7; have hb47 := (hb46.trans ((Below.refl w4.heap.size w6).alloc hb46.size (.cells #[.string c] 9))).trans hb7; have f7 : w7.frozen? ⟨wa, 3, none⟩ = false := (Blk.below H4.out.wat hb47).free 3; have e7 : w7.cell? ⟨wa, 3, none⟩ = some (.slice ua al.length uc) := (Blk.below H4.out.wat hb47).cell 3; have c07 : w7.cell? ⟨wa, 0, none⟩ = some (.pointer (some ⟨b, 0, none⟩)) := (Blk.below H4.out.wat hb47).cell 0))
      go_ret
      have HK := Lib.hid (H4.out.set hb47 (av2 := .slice vb (al.length + 1) vd) (al2 := al ++ [c]) (by rw [List.length_append]; exact row_base hr7 H4.out.own.sz) (ownsRow_below H4.out.srow hb47) (Blk.below H4.out.log hb47) H4.out.lgb H4.out.lok 3 _ rfl)
      exact ⟨_, rfl, lg, R.P, R.B, R.L, _, _, _, al ++ [c], sl, _, _, HK.out, by omega, by omega, by rw [List.length_append]; show al.length + 1 ≤ _; omega, h5⟩
  · by_cases he14 : R.e = 14
    · generalize R.e = re at he14 ⊢
      subst he14
      clear he0
      cases U
      · have HU4 := Lib.hid H4.out.up
        generalize (!R.P.off) = U2 at HU4
        clear c3 hw5 HA5 hbs
        cases U2
        all_goals
          go_wp2_with fail
          refine HU4.out.mono ?_
          rintro e w5 ⟨rfl, rfl⟩
          go_wp2_with fail
          go_ret
          exact ⟨_, rfl, lg, R.P, R.B, R.L, _, _, _, al, sl, _, _, H4.out, by omega, by omega, by omega, h5⟩
      · go_wp2_with (first
      | (at_builtin; refine wpList_append_rows rfl _ _ rfl w4.heap.size w0.heap.size (.slice (some ⟨w4.heap.size, 0, none⟩) 0 0) (.slice ua al.length uc) 0 al.length al.length [] al rfl rfl (row_nil w4 _ (Nat.le_refl _)) HA5.out (by omega) (by omega) hbs ?_; intro va vc w6 hr6 hb6; have hb46 := (hw5 _).trans hb6)
      | (at_builtin; refine wpList_append_rows rfl _ _ rfl w4.heap.size w6.heap.size (.slice va al.length vc) (.slice (some ⟨w6.heap.size, 0, none⟩) 1 1) al.length 1 (al.length + 1) al [c] rfl rfl (ownsRow_below hr6 ((Below.refl _ w6).alloc (Nat.le_refl _) _)) (World.ownsRow_lit w6 #[.string c] 1 (Nat.le_refl _) (by decide) rfl) rfl (by omega) (Nat.le_trans hb46.size ((Below.refl _ w6).alloc (Nat.le_refl _) (.cells #[.string c] 9)).size) ?_; intro vb vd w7 hr7 hb7; have hb47 := (hb46.trans ((Below.refl w4.heap.size w6).alloc hb46.size (.cells #[.string c] 9))).trans hb7; have f7 : w7.frozen? ⟨wa, 3, none⟩ = false := (Blk.below H4.out.wat hb47).free 3; have e7 : w7.cell? ⟨wa, 3, none⟩ = some (.slice ua al.length uc) := (Blk.below H4.out.wat hb47).cell 3; have c07 : w7.cell? ⟨wa, 0, none⟩ = some (.pointer (some ⟨b, 0, none⟩)) := (Blk.below H4.out.wat hb47).cell 0))
        have HK := Lib.hid (H4.out.set hb47 (av2 := .slice vb (al.length + 1) vd) (al2 := al ++ [c]) (by rw [List.length_append]; exact row_base hr7 H4.out.own.sz) (ownsRow_below H4.out.srow hb47) (Blk.below H4.out.log hb47) H4.out.lgb H4.out.lok 3 _ rfl)
        have HU4 := Lib.hid HK.out.up
        generalize (!R.P.off) = U2 at HU4
        cases U2
        all_goals
          refine HU4.out.mono ?_
          rintro e w8 ⟨rfl, rfl⟩
          go_wp2_with fail
          go_ret
          exact ⟨_, rfl, lg, R.P, R.B, R.L, _, _, _, al ++ [c], sl, _, _, HK.out, by omega, by omega, by rw [List.length_append]; show al.length + 1 ≤ _; omega, h5⟩
    · have hb0 : (R.e == 0) = false := by simpa using he0
      have hb14 : (R.e == 14) = false := by simpa using he14
      clear c3 hw5 HA5 hbs
      generalize R.e = re at he0 he14 hb0 hb14 ⊢
      by_cases he7 : re = 7
      · subst he7
        cases U
        all_goals
          go_wp2_with fail
          go_ret
          exact ⟨_, rfl, lg, R.P, R.B, R.L, _, _, _, al, sl, _, _, H4.out, by omega, by omega, by omega, h5⟩
      · have hb7 : (re == 7) = false := by simpa using he7
        cases U
        all_goals
          go_wp2_with fail
          go_ret
          exact ⟨_, rfl, lg, R.P, R.B, R.L, _, _, _, al, sl, _, _, H4.out, by omega, by omega, by omega, h5⟩
end Go.Proofs.YtkllnihhhgaojaaGreatDoor
